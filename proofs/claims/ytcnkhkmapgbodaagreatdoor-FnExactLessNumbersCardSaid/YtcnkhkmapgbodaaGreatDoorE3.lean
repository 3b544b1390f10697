/-
Texts of our own, put together: Ir.
-/
import Derived.Test.YtcnkhkmapgbodaaGreatDoorE2
import Derived.Test.YtcnkhkmapgbodaaGreatDoorProg
import Derived.KernelRfl
section
namespace Go.Proofs.YtcnkhkmapgbodaaGreatDoor.W
set_option linter.unusedVariables false
open Go.B
noncomputable def sq (t : Nat) : Bool := !Tryz.prog.stoodInHeld t && !Tryz.prog.eqGuardType Tryz.prog.depth t
theorem sqOk (t : Nat) (h : sq t = true) : Tryz.prog.stoodInHeld t = false ∧ Tryz.prog.eqGuardType Tryz.prog.depth t = false := by
  simpa [sq] using h
def ir10 : BFun := ⟨[(.tmp 0)], (.seq (.region [⟨(some 0), (.mov (.c (.bool false))), none, []⟩]) (.seq (.region [⟨(some 6), (.call (.c (.fn 30 [])) []), none, []⟩, ⟨(some 1), (.new 29 [(.int .i64 0), (.int .i64 0), .nils, .nils]), none,
  []⟩, ⟨none, (.store none 4 (.t 1) (.t 6)), none, []⟩]) (.seq (.region [⟨(some 7), (.call (.c (.fn 31 [])) []), none, []⟩, ⟨(some 2), (.new 29 [(.int .i64 0), (.int .i64 0), .nils, .nils]), none, []⟩, ⟨none, (.store none 4 (.t 2) (.t 7)),
  none, []⟩]) (.seq (.seq (.region [⟨(some 8), (.load none (some 4) (.t 2)), none, []⟩, ⟨(some 9), (.load none (some 4) (.t 1)), none, []⟩, ⟨(some 10), (.call (.c (.fn 15 [])) [(.t 8), (.t 9)]), none, []⟩, ⟨(some 11), (.not (.t 10)), none,
  []⟩]) (.cond (.t 11) (.seq (.region [⟨(some 0), (.mov (.c (.bool false))), none, []⟩]) .ret) .skip)) (.seq (.region [⟨(some 3), (.mov (.c (.int .i64 1))), none, []⟩]) (.seq (.region [⟨(some 12), (.load none (some 4) (.t 2)), none, []⟩,
  ⟨(some 13), (.mov (.t 3)), none, []⟩, ⟨(some 14), (.call (.c (.fn 18 [])) [(.t 12), (.t 13)]), none, []⟩, ⟨(some 3), (.mov (.t 14)), none, []⟩]) (.seq (.region [⟨(some 4), (.mov (.c (.int .i64 1))), none, []⟩]) (.seq (.region [⟨(some 15),
  (.load none (some 4) (.t 2)), none, []⟩, ⟨(some 16), (.mov (.t 4)), none, []⟩, ⟨(some 17), (.call (.c (.fn 19 [])) [(.t 15), (.t 16)]), none, []⟩, ⟨(some 4), (.mov (.t 17)), none, []⟩]) (.seq (.seq (.region [⟨(some 18), (.mov (.t 4)),
  none, []⟩, ⟨(some 19), (.bin .lss (.t 18) (.c (.int .i64 0))), none, []⟩]) (.cond (.t 19) (.seq (.region [⟨(some 0), (.mov (.c (.bool false))), none, []⟩]) .ret) .skip)) (.seq (.seq (.region [⟨(some 20), (.mov (.t 4)), none, []⟩, ⟨(some
  21), (.mov (.t 3)), none, []⟩, ⟨(some 22), (.bin .neq (.t 20) (.t 21)), none, []⟩]) (.cond (.t 22) (.seq (.region [⟨(some 0), (.mov (.c (.bool false))), none, []⟩]) .ret) .skip)) (.seq (.region [⟨(some 23), (.call (.c (.fn 31 [])) []),
  none, []⟩, ⟨(some 5), (.new 29 [(.int .i64 0), (.int .i64 0), .nils, .nils]), none, []⟩, ⟨none, (.store none 4 (.t 5) (.t 23)), none, []⟩]) (.seq (.seq (.region [⟨(some 24), (.load none (some 4) (.t 5)), none, []⟩, ⟨(some 25), (.load none
  (some 4) (.t 1)), none, []⟩, ⟨(some 26), (.call (.c (.fn 15 [])) [(.t 24), (.t 25)]), none, []⟩, ⟨(some 27), (.not (.t 26)), none, []⟩]) (.cond (.t 27) (.seq (.region [⟨(some 0), (.mov (.c (.bool false))), none, []⟩]) .ret) .skip)) (.seq
  (.region [⟨(some 4), (.mov (.c (.int .i64 1))), none, []⟩]) (.seq (.region [⟨(some 28), (.load none (some 4) (.t 2)), none, []⟩, ⟨(some 29), (.mov (.t 4)), none, []⟩, ⟨(some 30), (.call (.c (.fn 19 [])) [(.t 28), (.t 29)]), none, []⟩,
  ⟨(some 4), (.mov (.t 30)), none, []⟩]) (.seq (.seq (.region [⟨(some 31), (.mov (.t 4)), none, []⟩, ⟨(some 32), (.bin .lss (.t 31) (.c (.int .i64 0))), none, []⟩]) (.cond (.t 32) (.seq (.region [⟨(some 0), (.mov (.c (.bool false))), none,
  []⟩]) .ret) .skip)) (.seq (.seq (.region [⟨(some 33), (.mov (.t 4)), none, []⟩, ⟨(some 34), (.mov (.t 3)), none, []⟩, ⟨(some 35), (.bin .neq (.t 33) (.t 34)), none, []⟩]) (.cond (.t 35) (.seq (.region [⟨(some 0), (.mov (.c (.bool false))),
  none, []⟩]) .ret) .skip)) (.seq (.region [⟨(some 0), (.mov (.c (.bool true))), none, []⟩]) .ret)))))))))))))))))⟩
theorem irOk10 : compFun Tryz.prog.underlying Tryz.prog.info? sq Tryz.f10 = some ir10 := by kernel_rfl
def ir15 : BFun := ⟨[(.tmp 4)], (.seq (.region [⟨(some 2), (.box 29 (.t 0)), none, []⟩, ⟨(some 3), (.box 29 (.t 1)), none, []⟩, ⟨(some 4), (.mov (.c (.bool false))), none, []⟩]) (.seq (.seq (.region [⟨(some 5), (.lea 0 (.t 2)), none, []⟩,
  ⟨(some 6), (.load none none (.t 5)), none, []⟩, ⟨(some 7), (.lea 0 (.t 3)), none, []⟩, ⟨(some 8), (.load none none (.t 7)), none, []⟩, ⟨(some 9), (.bin .neq (.t 6) (.t 8)), none, []⟩]) (.cond (.t 9) (.seq (.region [⟨(some 4), (.mov (.c
  (.bool false))), none, []⟩]) .ret) .skip)) (.seq (.seq (.region [⟨(some 10), (.lea 1 (.t 2)), none, []⟩, ⟨(some 11), (.load none none (.t 10)), none, []⟩, ⟨(some 12), (.lea 1 (.t 3)), none, []⟩, ⟨(some 13), (.load none none (.t 12)), none,
  []⟩, ⟨(some 14), (.bin .neq (.t 11) (.t 13)), none, []⟩]) (.cond (.t 14) (.seq (.region [⟨(some 4), (.mov (.c (.bool false))), none, []⟩]) .ret) .skip)) (.seq (.seq (.region [⟨(some 15), (.lea 2 (.t 2)), none, []⟩, ⟨(some 16), (.load none
  none (.t 15)), none, []⟩, ⟨(some 17), (.lea 2 (.t 3)), none, []⟩, ⟨(some 18), (.load none none (.t 17)), none, []⟩, ⟨(some 19), (.call (.c (.fn 40 [])) [(.t 16), (.t 18)]), none, []⟩, ⟨(some 20), (.not (.t 19)), none, []⟩]) (.cond (.t 20)
  (.seq (.region [⟨(some 4), (.mov (.c (.bool false))), none, []⟩]) .ret) .skip)) (.seq (.seq (.region [⟨(some 21), (.lea 3 (.t 2)), none, []⟩, ⟨(some 22), (.load none none (.t 21)), none, []⟩, ⟨(some 23), (.lea 3 (.t 3)), none, []⟩, ⟨(some
  24), (.load none none (.t 23)), none, []⟩, ⟨(some 25), (.call (.c (.fn 41 [])) [(.t 22), (.t 24)]), none, []⟩, ⟨(some 26), (.not (.t 25)), none, []⟩]) (.cond (.t 26) (.seq (.region [⟨(some 4), (.mov (.c (.bool false))), none, []⟩]) .ret)
  .skip)) (.seq (.region [⟨(some 4), (.mov (.c (.bool true))), none, []⟩]) .ret))))))⟩
theorem irOk15 : compFun Tryz.prog.underlying Tryz.prog.info? sq Tryz.f15 = some ir15 := by kernel_rfl
def ir18 : BFun := ⟨[(.tmp 4)], (.seq (.region [⟨(some 2), (.box 29 (.t 0)), none, []⟩, ⟨(some 4), (.mov (.c (.int .i64 0))), none, []⟩]) (.seq (.region [⟨(some 5), (.lea 2 (.t 2)), none, []⟩, ⟨(some 6), (.load none none (.t 5)), none, []⟩,
  ⟨(some 7), (.mov (.t 1)), none, []⟩, ⟨(some 8), (.call (.c (.fn 52 [])) [(.t 6), (.t 7)]), none, []⟩, ⟨(some 1), (.mov (.t 8)), none, []⟩]) (.seq (.region [⟨(some 9), (.lea 3 (.t 2)), none, []⟩, ⟨(some 10), (.load none none (.t 9)), none,
  []⟩, ⟨(some 11), (.mov (.t 1)), none, []⟩, ⟨(some 12), (.call (.c (.fn 53 [])) [(.t 10), (.t 11)]), none, []⟩, ⟨(some 1), (.mov (.t 12)), none, []⟩]) (.seq (.region [⟨(some 13), (.mov (.t 1)), none, []⟩, ⟨(some 4), (.mov (.t 13)), none,
  []⟩]) .ret))))⟩
theorem irOk18 : compFun Tryz.prog.underlying Tryz.prog.info? sq Tryz.f18 = some ir18 := by kernel_rfl
def ir19 : BFun := ⟨[(.tmp 4)], (.seq (.region [⟨(some 2), (.box 29 (.t 0)), none, []⟩, ⟨(some 4), (.mov (.c (.int .i64 0))), none, []⟩]) (.seq (.region [⟨(some 5), (.lea 2 (.t 2)), none, []⟩, ⟨(some 6), (.load none none (.t 5)), none, []⟩,
  ⟨(some 7), (.mov (.t 1)), none, []⟩, ⟨(some 8), (.call (.c (.fn 54 [])) [(.t 6), (.t 7)]), none, []⟩, ⟨(some 1), (.mov (.t 8)), none, []⟩]) (.seq (.seq (.region [⟨(some 9), (.mov (.t 1)), none, []⟩, ⟨(some 10), (.bin .lss (.t 9) (.c (.int
  .i64 0))), none, []⟩]) (.cond (.t 10) (.seq (.region [⟨(some 4), (.mov (.c (.int .i64 (-1)))), none, []⟩]) .ret) .skip)) (.seq (.region [⟨(some 11), (.lea 3 (.t 2)), none, []⟩, ⟨(some 12), (.load none none (.t 11)), none, []⟩, ⟨(some 13),
  (.mov (.t 1)), none, []⟩, ⟨(some 14), (.call (.c (.fn 55 [])) [(.t 12), (.t 13)]), none, []⟩, ⟨(some 1), (.mov (.t 14)), none, []⟩]) (.seq (.seq (.region [⟨(some 15), (.mov (.t 1)), none, []⟩, ⟨(some 16), (.bin .lss (.t 15) (.c (.int .i64
  0))), none, []⟩]) (.cond (.t 16) (.seq (.region [⟨(some 4), (.mov (.c (.int .i64 (-1)))), none, []⟩]) .ret) .skip)) (.seq (.region [⟨(some 17), (.mov (.t 1)), none, []⟩, ⟨(some 4), (.mov (.t 17)), none, []⟩]) .ret))))))⟩
theorem irOk19 : compFun Tryz.prog.underlying Tryz.prog.info? sq Tryz.f19 = some ir19 := by kernel_rfl
def ir30 : BFun := ⟨[(.cell 0 (some 4))], (.seq (.region [⟨(some 0), (.new 29 [(.int .i64 0), (.int .i64 0), .nils, .nils]), none, []⟩]) (.seq (.region [⟨(some 4), (.mk 2 2 [(.int .i64 0), (.int .i64 0)] [(0, (1, (.c (.int .i64 1)))), (1,
  (1, (.c (.int .i64 (-1)))))]), none, []⟩, ⟨(some 5), (.call (.c (.fn 61 [])) [(.c (.int .i64 2)), (.t 4), (.c (.int .i64 (-1)))]), none, []⟩, ⟨(some 3), (.mov (.t 5)), none, []⟩, ⟨(some 6), (.ext 0 (.t 3)), none, []⟩, ⟨(some 7), (.ext 1
  (.t 3)), none, []⟩, ⟨(some 1), (.new 29 [(.int .i64 0), (.int .i64 0), .nils, .nils]), none, []⟩, ⟨none, (.store none 4 (.t 1) (.t 6)), none, []⟩, ⟨(some 2), (.mov (.t 7)), none, []⟩]) (.seq (.region [⟨(some 8), (.load none (some 4) (.t
  1)), none, []⟩, ⟨none, (.store none 4 (.t 0) (.t 8)), none, []⟩]) .ret)))⟩
theorem irOk30 : compFun Tryz.prog.underlying Tryz.prog.info? sq Tryz.f30 = some ir30 := by kernel_rfl
def ir31 : BFun := ⟨[(.cell 0 (some 4))], (.seq (.region [⟨(some 0), (.new 29 [(.int .i64 0), (.int .i64 0), .nils, .nils]), none, []⟩]) (.seq (.region [⟨(some 4), (.mk 2 2 [(.int .i64 0), (.int .i64 0)] [(0, (1, (.c (.int .i64 1)))), (1,
  (1, (.c (.int .i64 (-1)))))]), none, []⟩, ⟨(some 5), (.call (.c (.fn 64 [])) [(.c (.int .i64 2)), (.t 4), (.c (.int .i64 (-1)))]), none, []⟩, ⟨(some 3), (.mov (.t 5)), none, []⟩, ⟨(some 6), (.ext 0 (.t 3)), none, []⟩, ⟨(some 7), (.ext 1
  (.t 3)), none, []⟩, ⟨(some 1), (.new 29 [(.int .i64 0), (.int .i64 0), .nils, .nils]), none, []⟩, ⟨none, (.store none 4 (.t 1) (.t 6)), none, []⟩, ⟨(some 2), (.mov (.t 7)), none, []⟩]) (.seq (.region [⟨(some 8), (.load none (some 4) (.t
  1)), none, []⟩, ⟨none, (.store none 4 (.t 0) (.t 8)), none, []⟩]) .ret)))⟩
theorem irOk31 : compFun Tryz.prog.underlying Tryz.prog.info? sq Tryz.f31 = some ir31 := by kernel_rfl
def ir40 : BFun := ⟨[(.tmp 4)], (.seq (.region [⟨(some 4), (.mov (.c (.bool false))), none, []⟩]) (.seq (.seq (.region [⟨(some 6), (.mov (.t 0)), none, []⟩, ⟨(some 7), (.len 1 (.t 6)), none, []⟩, ⟨(some 8), (.mov (.t 1)), none, []⟩, ⟨(some
  9), (.len 1 (.t 8)), none, []⟩, ⟨(some 10), (.bin .neq (.t 7) (.t 9)), none, []⟩]) (.cond (.t 10) (.seq (.region [⟨(some 4), (.mov (.c (.bool false))), none, []⟩]) .ret) .skip)) (.seq (.seq (.region [⟨(some 5), (.mov (.c (.int .i64 0))),
  none, []⟩]) (.block 0 (.loop (.seq (.seq (.region [⟨(some 11), (.mov (.t 5)), none, []⟩, ⟨(some 12), (.mov (.t 0)), none, []⟩, ⟨(some 13), (.len 1 (.t 12)), none, []⟩, ⟨(some 14), (.bin .lss (.t 11) (.t 13)), none, []⟩]) (.cond (.t 14)
  .skip (.exit 0))) (.seq (.block 1 (.seq (.region [⟨(some 17), (.mov (.t 0)), none, []⟩, ⟨(some 18), (.mov (.t 5)), none, []⟩, ⟨(some 19), (.idx 1 (.t 17) (.t 18)), none, []⟩, ⟨(some 20), (.load none none (.t 19)), none, []⟩, ⟨(some 21),
  (.mov (.t 1)), none, []⟩, ⟨(some 22), (.mov (.t 5)), none, []⟩, ⟨(some 23), (.idx 1 (.t 21) (.t 22)), none, []⟩, ⟨(some 24), (.load none none (.t 23)), none, []⟩, ⟨(some 25), (.beq true (.t 20) (.t 24)), none, []⟩]) (.cond (.t 25) (.seq
  (.region [⟨(some 4), (.mov (.c (.bool false))), none, []⟩]) .ret) .skip))) (.region [⟨(some 15), (.mov (.t 5)), none, []⟩, ⟨(some 16), (.bin .add (.t 15) (.c (.int .i64 1))), none, []⟩, ⟨(some 5), (.mov (.t 16)), none, []⟩])))))) (.seq
  (.region [⟨(some 4), (.mov (.c (.bool true))), none, []⟩]) .ret))))⟩
theorem irOk40 : compFun Tryz.prog.underlying Tryz.prog.info? sq Tryz.f40 = some ir40 := by kernel_rfl
def ir41 : BFun := ⟨[(.tmp 4)], (.seq (.region [⟨(some 4), (.mov (.c (.bool false))), none, []⟩]) (.seq (.seq (.region [⟨(some 6), (.mov (.t 0)), none, []⟩, ⟨(some 7), (.len 1 (.t 6)), none, []⟩, ⟨(some 8), (.mov (.t 1)), none, []⟩, ⟨(some
  9), (.len 1 (.t 8)), none, []⟩, ⟨(some 10), (.bin .neq (.t 7) (.t 9)), none, []⟩]) (.cond (.t 10) (.seq (.region [⟨(some 4), (.mov (.c (.bool false))), none, []⟩]) .ret) .skip)) (.seq (.seq (.region [⟨(some 5), (.mov (.c (.int .i64 0))),
  none, []⟩]) (.block 0 (.loop (.seq (.seq (.region [⟨(some 11), (.mov (.t 5)), none, []⟩, ⟨(some 12), (.mov (.t 0)), none, []⟩, ⟨(some 13), (.len 1 (.t 12)), none, []⟩, ⟨(some 14), (.bin .lss (.t 11) (.t 13)), none, []⟩]) (.cond (.t 14)
  .skip (.exit 0))) (.seq (.block 1 (.seq (.region [⟨(some 17), (.mov (.t 0)), none, []⟩, ⟨(some 18), (.mov (.t 5)), none, []⟩, ⟨(some 19), (.idx 1 (.t 17) (.t 18)), none, []⟩, ⟨(some 20), (.load none none (.t 19)), none, []⟩, ⟨(some 21),
  (.mov (.t 1)), none, []⟩, ⟨(some 22), (.mov (.t 5)), none, []⟩, ⟨(some 23), (.idx 1 (.t 21) (.t 22)), none, []⟩, ⟨(some 24), (.load none none (.t 23)), none, []⟩, ⟨(some 25), (.call (.c (.fn 82 [])) [(.t 20), (.t 24)]), none, []⟩, ⟨(some
  26), (.not (.t 25)), none, []⟩]) (.cond (.t 26) (.seq (.region [⟨(some 4), (.mov (.c (.bool false))), none, []⟩]) .ret) .skip))) (.region [⟨(some 15), (.mov (.t 5)), none, []⟩, ⟨(some 16), (.bin .add (.t 15) (.c (.int .i64 1))), none, []⟩,
  ⟨(some 5), (.mov (.t 16)), none, []⟩])))))) (.seq (.region [⟨(some 4), (.mov (.c (.bool true))), none, []⟩]) .ret))))⟩
theorem irOk41 : compFun Tryz.prog.underlying Tryz.prog.info? sq Tryz.f41 = some ir41 := by kernel_rfl
def ir42 : BFun := ⟨[(.tmp 2)], (.seq (.region [⟨(some 2), (.mov (.c (.bool false))), none, []⟩]) (.seq (.region [⟨(some 3), (.mov (.t 0)), none, []⟩, ⟨(some 4), (.nilck (.t 3)), none, []⟩, ⟨(some 5), (.lea 2 (.t 4)), none, []⟩, ⟨(some 6),
  (.load none none (.t 5)), none, []⟩, ⟨(some 7), (.len 1 (.t 6)), none, []⟩, ⟨(some 8), (.bin .leq (.t 7) (.c (.int .i64 150))), none, []⟩, ⟨(some 9), (.mov (.t 8)), none, []⟩, ⟨(some 10), (.mov (.t 0)), (some (9, true)), []⟩, ⟨(some 11),
  (.call (.c (.fn 83 [])) [(.t 10)]), (some (9, true)), []⟩, ⟨(some 12), (.pick (.t 9) (.t 11) (.c (.bool false))), none, []⟩, ⟨(some 2), (.mov (.t 12)), none, []⟩]) .ret))⟩
theorem irOk42 : compFun Tryz.prog.underlying Tryz.prog.info? sq Tryz.f42 = some ir42 := by kernel_rfl
def ir45 : BFun := ⟨[(.cell 4 (some 4)), (.tmp 5)], (.seq (.region [⟨(some 2), (.box 29 (.t 0)), none, []⟩, ⟨(some 3), (.box 29 (.t 1)), none, []⟩, ⟨(some 4), (.new 29 [(.int .i64 0), (.int .i64 0), .nils, .nils]), none, []⟩, ⟨(some 5),
  (.mov (.c (.int .i64 0))), none, []⟩]) (.seq (.region [⟨(some 6), (.call (.c (.fn 88 [])) [(.t 2), (.t 3), (.c (.int .i64 1))]), none, []⟩, ⟨(some 7), (.ext 0 (.t 6)), none, []⟩, ⟨(some 8), (.ext 1 (.t 6)), none, []⟩, ⟨none, (.store none 4
  (.t 4) (.t 7)), none, []⟩, ⟨(some 5), (.mov (.t 8)), none, []⟩]) .ret))⟩
theorem irOk45 : compFun Tryz.prog.underlying Tryz.prog.info? sq Tryz.f45 = some ir45 := by kernel_rfl
def ir47 : BFun := ⟨[(.cell 4 (some 4)), (.tmp 5)], (.seq (.region [⟨(some 2), (.box 29 (.t 0)), none, []⟩, ⟨(some 4), (.new 29 [(.int .i64 0), (.int .i64 0), .nils, .nils]), none, []⟩, ⟨(some 5), (.mov (.c (.int .i64 0))), none, []⟩]) (.seq
  (.seq (.region [⟨(some 10), (.mov (.t 1)), none, []⟩, ⟨(some 11), (.len 1 (.t 10)), none, []⟩, ⟨(some 12), (.mov (.c (.int .i64 0))), none, []⟩]) (.block 0 (.loop (.seq (.region [⟨(some 13), (.bin .lss (.t 12) (.t 11)), none, []⟩]) (.seq
  (.cond (.t 13) .skip (.exit 0)) (.seq (.block 1 (.seq (.region [⟨(some 14), (.idx 1 (.t 10) (.t 12)), none, []⟩, ⟨(some 15), (.load none none (.t 14)), none, []⟩, ⟨(some 7), (.mov (.t 15)), none, []⟩]) (.seq (.region [⟨(some 17), (.load
  none (some 4) (.t 2)), none, []⟩, ⟨(some 18), (.mov (.t 7)), none, []⟩, ⟨(some 19), (.call (.c (.fn 91 [])) [(.t 17), (.t 18)]), none, []⟩, ⟨(some 16), (.mov (.t 19)), none, []⟩, ⟨(some 20), (.ext 0 (.t 16)), none, []⟩, ⟨(some 21), (.ext 1
  (.t 16)), none, []⟩, ⟨(some 8), (.new 29 [(.int .i64 0), (.int .i64 0), .nils, .nils]), none, []⟩, ⟨none, (.store none 4 (.t 8) (.t 20)), none, []⟩, ⟨(some 9), (.mov (.t 21)), none, []⟩]) (.seq (.seq (.region [⟨(some 22), (.mov (.t 9)),
  none, []⟩, ⟨(some 23), (.bin .neq (.t 22) (.c (.int .i64 0))), none, []⟩]) (.cond (.t 23) (.seq (.region [⟨(some 24), (.build [(.int .i64 0), (.int .i64 0), .nils, .nils] []), none, []⟩, ⟨(some 25), (.mov (.t 9)), none, []⟩, ⟨none, (.store
  none 4 (.t 4) (.t 24)), none, []⟩, ⟨(some 5), (.mov (.t 25)), none, []⟩]) .ret) .skip)) (.region [⟨(some 26), (.load none (some 4) (.t 8)), none, []⟩, ⟨none, (.store none 4 (.t 2) (.t 26)), none, []⟩]))))) (.region [⟨(some 27), (.bin .add
  (.t 12) (.c (.int .i64 1))), none, []⟩, ⟨(some 12), (.mov (.t 27)), none, []⟩]))))))) (.seq (.region [⟨(some 28), (.load none (some 4) (.t 2)), none, []⟩, ⟨none, (.store none 4 (.t 4) (.t 28)), none, []⟩, ⟨(some 5), (.mov (.c (.int .i64
  0))), none, []⟩]) .ret)))⟩
theorem irOk47 : compFun Tryz.prog.underlying Tryz.prog.info? sq Tryz.f47 = some ir47 := by kernel_rfl
def ir48 : BFun := ⟨[(.cell 8 (some 4)), (.tmp 9)], (.seq (.region [⟨(some 4), (.box 29 (.t 0)), none, []⟩, ⟨(some 6), (.box 29 (.t 2)), none, []⟩, ⟨(some 8), (.new 29 [(.int .i64 0), (.int .i64 0), .nils, .nils]), none, []⟩, ⟨(some 9),
  (.mov (.c (.int .i64 0))), none, []⟩]) (.seq (.block 0 (.seq (.region [⟨(some 11), (.mov (.t 1)), none, []⟩, ⟨(some 12), (.bin .neq (.t 11) (.c (.int .i64 0))), none, []⟩, ⟨(some 10), (.mov (.t 12)), none, []⟩]) (.cond (.t 10) (.seq
  (.region [⟨(some 13), (.build [(.int .i64 0), (.int .i64 0), .nils, .nils] []), none, []⟩, ⟨(some 14), (.mov (.t 1)), none, []⟩, ⟨none, (.store none 4 (.t 8) (.t 13)), none, []⟩, ⟨(some 9), (.mov (.t 14)), none, []⟩]) .ret) (.seq (.region
  [⟨(some 16), (.mov (.t 3)), none, []⟩, ⟨(some 17), (.bin .neq (.t 16) (.c (.int .i64 0))), none, []⟩, ⟨(some 15), (.mov (.t 17)), none, []⟩]) (.cond (.t 15) (.seq (.region [⟨(some 18), (.build [(.int .i64 0), (.int .i64 0), .nils, .nils]
  []), none, []⟩, ⟨(some 19), (.mov (.t 3)), none, []⟩, ⟨none, (.store none 4 (.t 8) (.t 18)), none, []⟩, ⟨(some 9), (.mov (.t 19)), none, []⟩]) .ret) .skip))))) (.seq (.region [⟨(some 20), (.load none (some 4) (.t 4)), none, []⟩, ⟨(some
  21), (.load none (some 4) (.t 6)), none, []⟩, ⟨(some 22), (.call (.c (.fn 92 [])) [(.t 20), (.t 21)]), none, []⟩, ⟨(some 23), (.ext 0 (.t 22)), none, []⟩, ⟨(some 24), (.ext 1 (.t 22)), none, []⟩, ⟨none, (.store none 4 (.t 8) (.t 23)),
  none, []⟩, ⟨(some 9), (.mov (.t 24)), none, []⟩]) .ret)))⟩
theorem irOk48 : compFun Tryz.prog.underlying Tryz.prog.info? sq Tryz.f48 = some ir48 := by kernel_rfl
def ir52 : BFun := ⟨[(.tmp 4)], (.seq (.region [⟨(some 4), (.mov (.c (.int .i64 0))), none, []⟩]) (.seq (.seq (.region [⟨(some 5), (.mov (.c (.int .i64 0))), none, []⟩]) (.block 0 (.loop (.seq (.seq (.region [⟨(some 6), (.mov (.t 5)), none,
  []⟩, ⟨(some 7), (.mov (.t 0)), none, []⟩, ⟨(some 8), (.len 1 (.t 7)), none, []⟩, ⟨(some 9), (.bin .lss (.t 6) (.t 8)), none, []⟩]) (.cond (.t 9) .skip (.exit 0))) (.seq (.block 1 (.seq (.region [⟨(some 12), (.mov (.t 0)), none, []⟩, ⟨(some
  13), (.mov (.t 5)), none, []⟩, ⟨(some 14), (.mov (.t 1)), none, []⟩, ⟨(some 15), (.bin .rem (.t 14) (.c (.int .i64 3))), none, []⟩, ⟨(some 16), (.bin .eql (.t 15) (.c (.int .i64 0))), none, []⟩, ⟨(some 17), (.idx 1 (.t 12) (.t 13)), none,
  []⟩, ⟨none, (.store none 1 (.t 17) (.t 16)), none, []⟩]) (.region [⟨(some 18), (.mov (.t 1)), none, []⟩, ⟨(some 19), (.bin .add (.t 18) (.c (.int .i64 1))), none, []⟩, ⟨(some 1), (.mov (.t 19)), none, []⟩]))) (.region [⟨(some 10), (.mov
  (.t 5)), none, []⟩, ⟨(some 11), (.bin .add (.t 10) (.c (.int .i64 1))), none, []⟩, ⟨(some 5), (.mov (.t 11)), none, []⟩])))))) (.seq (.region [⟨(some 20), (.mov (.t 1)), none, []⟩, ⟨(some 4), (.mov (.t 20)), none, []⟩]) .ret)))⟩
theorem irOk52 : compFun Tryz.prog.underlying Tryz.prog.info? sq Tryz.f52 = some ir52 := by kernel_rfl
def ir53 : BFun := ⟨[(.tmp 4)], (.seq (.region [⟨(some 4), (.mov (.c (.int .i64 0))), none, []⟩]) (.seq (.seq (.region [⟨(some 5), (.mov (.c (.int .i64 0))), none, []⟩]) (.block 0 (.loop (.seq (.seq (.region [⟨(some 6), (.mov (.t 5)), none,
  []⟩, ⟨(some 7), (.mov (.t 0)), none, []⟩, ⟨(some 8), (.len 1 (.t 7)), none, []⟩, ⟨(some 9), (.bin .lss (.t 6) (.t 8)), none, []⟩]) (.cond (.t 9) .skip (.exit 0))) (.seq (.block 1 (.region [⟨(some 12), (.mov (.t 0)), none, []⟩, ⟨(some 13),
  (.mov (.t 5)), none, []⟩, ⟨(some 14), (.idx 1 (.t 12) (.t 13)), none, []⟩, ⟨(some 15), (.load none none (.t 14)), none, []⟩, ⟨(some 16), (.mov (.t 1)), none, []⟩, ⟨(some 17), (.call (.c (.fn 96 [])) [(.t 15), (.t 16)]), none, []⟩, ⟨(some
  1), (.mov (.t 17)), none, []⟩])) (.region [⟨(some 10), (.mov (.t 5)), none, []⟩, ⟨(some 11), (.bin .add (.t 10) (.c (.int .i64 1))), none, []⟩, ⟨(some 5), (.mov (.t 11)), none, []⟩])))))) (.seq (.region [⟨(some 18), (.mov (.t 1)), none,
  []⟩, ⟨(some 4), (.mov (.t 18)), none, []⟩]) .ret)))⟩
theorem irOk53 : compFun Tryz.prog.underlying Tryz.prog.info? sq Tryz.f53 = some ir53 := by kernel_rfl
def ir54 : BFun := ⟨[(.tmp 4)], (.seq (.region [⟨(some 4), (.mov (.c (.int .i64 0))), none, []⟩]) (.seq (.seq (.region [⟨(some 5), (.mov (.c (.int .i64 0))), none, []⟩]) (.block 0 (.loop (.seq (.seq (.region [⟨(some 6), (.mov (.t 5)), none,
  []⟩, ⟨(some 7), (.mov (.t 0)), none, []⟩, ⟨(some 8), (.len 1 (.t 7)), none, []⟩, ⟨(some 9), (.bin .lss (.t 6) (.t 8)), none, []⟩]) (.cond (.t 9) .skip (.exit 0))) (.seq (.block 1 (.seq (.seq (.region [⟨(some 12), (.mov (.t 0)), none, []⟩,
  ⟨(some 13), (.mov (.t 5)), none, []⟩, ⟨(some 14), (.idx 1 (.t 12) (.t 13)), none, []⟩, ⟨(some 15), (.load none none (.t 14)), none, []⟩, ⟨(some 16), (.mov (.t 1)), none, []⟩, ⟨(some 17), (.bin .rem (.t 16) (.c (.int .i64 3))), none, []⟩,
  ⟨(some 18), (.bin .eql (.t 17) (.c (.int .i64 0))), none, []⟩, ⟨(some 19), (.beq true (.t 15) (.t 18)), none, []⟩]) (.cond (.t 19) (.seq (.region [⟨(some 4), (.mov (.c (.int .i64 (-1)))), none, []⟩]) .ret) .skip)) (.region [⟨(some 20),
  (.mov (.t 1)), none, []⟩, ⟨(some 21), (.bin .add (.t 20) (.c (.int .i64 1))), none, []⟩, ⟨(some 1), (.mov (.t 21)), none, []⟩]))) (.region [⟨(some 10), (.mov (.t 5)), none, []⟩, ⟨(some 11), (.bin .add (.t 10) (.c (.int .i64 1))), none,
  []⟩, ⟨(some 5), (.mov (.t 11)), none, []⟩])))))) (.seq (.region [⟨(some 22), (.mov (.t 1)), none, []⟩, ⟨(some 4), (.mov (.t 22)), none, []⟩]) .ret)))⟩
theorem irOk54 : compFun Tryz.prog.underlying Tryz.prog.info? sq Tryz.f54 = some ir54 := by kernel_rfl
def ir55 : BFun := ⟨[(.tmp 4)], (.seq (.region [⟨(some 4), (.mov (.c (.int .i64 0))), none, []⟩]) (.seq (.seq (.region [⟨(some 5), (.mov (.c (.int .i64 0))), none, []⟩]) (.block 0 (.loop (.seq (.seq (.region [⟨(some 6), (.mov (.t 5)), none,
  []⟩, ⟨(some 7), (.mov (.t 0)), none, []⟩, ⟨(some 8), (.len 1 (.t 7)), none, []⟩, ⟨(some 9), (.bin .lss (.t 6) (.t 8)), none, []⟩]) (.cond (.t 9) .skip (.exit 0))) (.seq (.block 1 (.seq (.region [⟨(some 12), (.mov (.t 0)), none, []⟩, ⟨(some
  13), (.mov (.t 5)), none, []⟩, ⟨(some 14), (.idx 1 (.t 12) (.t 13)), none, []⟩, ⟨(some 15), (.load none none (.t 14)), none, []⟩, ⟨(some 16), (.mov (.t 1)), none, []⟩, ⟨(some 17), (.call (.c (.fn 97 [])) [(.t 15), (.t 16)]), none, []⟩,
  ⟨(some 1), (.mov (.t 17)), none, []⟩]) (.seq (.region [⟨(some 18), (.mov (.t 1)), none, []⟩, ⟨(some 19), (.bin .lss (.t 18) (.c (.int .i64 0))), none, []⟩]) (.cond (.t 19) (.seq (.region [⟨(some 4), (.mov (.c (.int .i64 (-1)))), none,
  []⟩]) .ret) .skip)))) (.region [⟨(some 10), (.mov (.t 5)), none, []⟩, ⟨(some 11), (.bin .add (.t 10) (.c (.int .i64 1))), none, []⟩, ⟨(some 5), (.mov (.t 11)), none, []⟩])))))) (.seq (.region [⟨(some 20), (.mov (.t 1)), none, []⟩, ⟨(some
  4), (.mov (.t 20)), none, []⟩]) .ret)))⟩
theorem irOk55 : compFun Tryz.prog.underlying Tryz.prog.info? sq Tryz.f55 = some ir55 := by kernel_rfl
def ir56 : BFun := ⟨[(.tmp 6)], (.seq (.region [⟨(some 6), (.mov (.c (.bool false))), none, []⟩]) (.seq (.region [⟨(some 7), (.mov (.t 0)), none, []⟩, ⟨(some 8), (.mov (.t 1)), none, []⟩, ⟨(some 9), (.bin .geq (.t 7) (.t 8)), none, []⟩,
  ⟨(some 10), (.mov (.t 9)), none, []⟩, ⟨(some 11), (.mov (.t 0)), (some (10, true)), []⟩, ⟨(some 12), (.mov (.t 2)), (some (10, true)), []⟩, ⟨(some 13), (.bin .leq (.t 11) (.t 12)), (some (10, true)), []⟩, ⟨(some 14), (.pick (.t 10) (.t 13)
  (.c (.bool false))), none, []⟩, ⟨(some 6), (.mov (.t 14)), none, []⟩]) .ret))⟩
theorem irOk56 : compFun Tryz.prog.underlying Tryz.prog.info? sq Tryz.f56 = some ir56 := by kernel_rfl
def ir58 : BFun := ⟨[(.tmp 6)], (.seq (.region [⟨(some 6), (.mov (.c (.bool false))), none, []⟩]) (.seq (.region [⟨(some 7), (.mov (.t 1)), none, []⟩, ⟨(some 8), (.mov (.t 0)), none, []⟩, ⟨(some 9), (.bin .leq (.t 7) (.t 8)), none, []⟩,
  ⟨(some 10), (.mov (.t 9)), none, []⟩, ⟨(some 11), (.mov (.t 0)), (some (10, true)), []⟩, ⟨(some 12), (.mov (.t 2)), (some (10, true)), []⟩, ⟨(some 13), (.bin .leq (.t 11) (.t 12)), (some (10, true)), []⟩, ⟨(some 14), (.pick (.t 10) (.t 13)
  (.c (.bool false))), none, []⟩, ⟨(some 6), (.mov (.t 14)), none, []⟩]) .ret))⟩
theorem irOk58 : compFun Tryz.prog.underlying Tryz.prog.info? sq Tryz.f58 = some ir58 := by kernel_rfl
def ir61 : BFun := ⟨[(.cell 6 (some 4)), (.tmp 7)], (.seq (.region [⟨(some 6), (.new 29 [(.int .i64 0), (.int .i64 0), .nils, .nils]), none, []⟩, ⟨(some 7), (.mov (.c (.int .i64 0))), none, []⟩]) (.seq (.seq (.region [⟨(some 16), (.mov (.t
  0)), none, []⟩, ⟨(some 17), (.bin .neq (.t 16) (.c (.int .i64 1))), none, []⟩, ⟨(some 18), (.mov (.t 17)), none, []⟩, ⟨(some 19), (.mov (.t 0)), (some (18, true)), []⟩, ⟨(some 20), (.bin .neq (.t 19) (.c (.int .i64 2))), (some (18, true)),
  []⟩, ⟨(some 21), (.pick (.t 18) (.t 20) (.c (.bool false))), none, []⟩, ⟨(some 22), (.mov (.t 21)), none, []⟩, ⟨(some 23), (.mov (.t 1)), (some (22, false)), []⟩, ⟨(some 24), (.len 1 (.t 23)), (some (22, false)), []⟩, ⟨(some 25), (.call
  (.c (.fn 56 [])) [(.t 24), (.c (.int .i64 1)), (.c (.int .i64 3))]), (some (22, false)), []⟩, ⟨(some 26), (.not (.t 25)), (some (22, false)), []⟩, ⟨(some 27), (.pick (.t 22) (.c (.bool true)) (.t 26)), none, []⟩, ⟨(some 28), (.mov (.t
  27)), none, []⟩, ⟨(some 29), (.mov (.t 2)), (some (28, false)), []⟩, ⟨(some 30), (.call (.c (.fn 56 [])) [(.t 29), (.c (.int .i64 (-1000))), (.c (.int .i64 1000))]), (some (28, false)), []⟩, ⟨(some 31), (.not (.t 30)), (some (28, false)),
  []⟩, ⟨(some 32), (.pick (.t 28) (.c (.bool true)) (.t 31)), none, []⟩]) (.cond (.t 32) (.seq (.region [⟨(some 33), (.build [(.int .i64 0), (.int .i64 0), .nils, .nils] []), none, []⟩, ⟨none, (.store none 4 (.t 6) (.t 33)), none, []⟩,
  ⟨(some 7), (.mov (.c (.int .i64 2))), none, []⟩]) .ret) .skip)) (.seq (.seq (.region [⟨(some 8), (.mov (.c (.int .i64 0))), none, []⟩]) (.block 0 (.loop (.seq (.seq (.region [⟨(some 34), (.mov (.t 8)), none, []⟩, ⟨(some 35), (.mov (.t 1)),
  none, []⟩, ⟨(some 36), (.len 1 (.t 35)), none, []⟩, ⟨(some 37), (.bin .lss (.t 34) (.t 36)), none, []⟩]) (.cond (.t 37) .skip (.exit 0))) (.seq (.block 1 (.seq (.region [⟨(some 40), (.mov (.t 1)), none, []⟩, ⟨(some 41), (.mov (.t 8)),
  none, []⟩, ⟨(some 42), (.idx 1 (.t 40) (.t 41)), none, []⟩, ⟨(some 43), (.load none none (.t 42)), none, []⟩, ⟨(some 44), (.call (.c (.fn 56 [])) [(.t 43), (.c (.int .i64 (-20))), (.c (.int .i64 20))]), none, []⟩, ⟨(some 45), (.not (.t
  44)), none, []⟩]) (.cond (.t 45) (.seq (.region [⟨(some 46), (.build [(.int .i64 0), (.int .i64 0), .nils, .nils] []), none, []⟩, ⟨none, (.store none 4 (.t 6) (.t 46)), none, []⟩, ⟨(some 7), (.mov (.c (.int .i64 2))), none, []⟩]) .ret)
  .skip))) (.region [⟨(some 38), (.mov (.t 8)), none, []⟩, ⟨(some 39), (.bin .add (.t 38) (.c (.int .i64 1))), none, []⟩, ⟨(some 8), (.mov (.t 39)), none, []⟩])))))) (.seq (.region [⟨(some 48), (.mov (.t 0)), none, []⟩, ⟨(some 49), (.mov (.t
  1)), none, []⟩, ⟨(some 50), (.mov (.t 2)), none, []⟩, ⟨(some 51), (.call (.c (.fn 106 [])) [(.t 48), (.t 49), (.t 50)]), none, []⟩, ⟨(some 47), (.mov (.t 51)), none, []⟩, ⟨(some 52), (.ext 0 (.t 47)), none, []⟩, ⟨(some 53), (.ext 1 (.t
  47)), none, []⟩, ⟨(some 9), (.new 29 [(.int .i64 0), (.int .i64 0), .nils, .nils]), none, []⟩, ⟨none, (.store none 4 (.t 9) (.t 52)), none, []⟩, ⟨(some 10), (.mov (.t 53)), none, []⟩]) (.seq (.seq (.region [⟨(some 54), (.mov (.t 10)),
  none, []⟩, ⟨(some 55), (.bin .neq (.t 54) (.c (.int .i64 0))), none, []⟩]) (.cond (.t 55) (.seq (.region [⟨(some 56), (.build [(.int .i64 0), (.int .i64 0), .nils, .nils] []), none, []⟩, ⟨(some 57), (.mov (.t 10)), none, []⟩, ⟨none,
  (.store none 4 (.t 6) (.t 56)), none, []⟩, ⟨(some 7), (.mov (.t 57)), none, []⟩]) .ret) .skip)) (.seq (.region [⟨(some 59), (.load none (some 4) (.t 9)), none, []⟩, ⟨(some 60), (.call (.c (.fn 86 [])) [(.t 59)]), none, []⟩, ⟨(some 58),
  (.mov (.t 60)), none, []⟩, ⟨(some 61), (.ext 0 (.t 58)), none, []⟩, ⟨(some 62), (.ext 1 (.t 58)), none, []⟩, ⟨(some 11), (.new 29 [(.int .i64 0), (.int .i64 0), .nils, .nils]), none, []⟩, ⟨none, (.store none 4 (.t 11) (.t 61)), none, []⟩,
  ⟨(some 12), (.mov (.t 62)), none, []⟩]) (.seq (.seq (.region [⟨(some 63), (.mov (.t 12)), none, []⟩, ⟨(some 64), (.bin .neq (.t 63) (.c (.int .i64 0))), none, []⟩]) (.cond (.t 64) (.seq (.region [⟨(some 65), (.build [(.int .i64 0), (.int
  .i64 0), .nils, .nils] []), none, []⟩, ⟨(some 66), (.mov (.t 12)), none, []⟩, ⟨none, (.store none 4 (.t 6) (.t 65)), none, []⟩, ⟨(some 7), (.mov (.t 66)), none, []⟩]) .ret) .skip)) (.seq (.region [⟨(some 67), (.call (.c (.fn 85 [])) []),
  none, []⟩, ⟨(some 68), (.build [(.int .i64 0), (.int .i64 0), .nils, .nils, .nils] [(0, (4, (.t 67)))]), none, []⟩, ⟨(some 13), (.new 101 [(.int .i64 0), (.int .i64 0), .nils, .nils, .nils]), none, []⟩, ⟨none, (.store none 5 (.t 13) (.t
  68)), none, []⟩]) (.seq (.region [⟨(some 70), (.mov (.t 1)), none, []⟩, ⟨(some 71), (.len 1 (.t 70)), none, []⟩, ⟨(some 72), (.call (.c (.fn 107 [])) [(.t 13), (.t 71)]), none, []⟩, ⟨(some 69), (.mov (.t 72)), none, []⟩, ⟨(some 73), (.ext
  0 (.t 69)), none, []⟩, ⟨(some 74), (.ext 1 (.t 69)), none, []⟩, ⟨(some 14), (.new 29 [(.int .i64 0), (.int .i64 0), .nils, .nils]), none, []⟩, ⟨none, (.store none 4 (.t 14) (.t 73)), none, []⟩, ⟨(some 15), (.mov (.t 74)), none, []⟩]) (.seq
  (.seq (.region [⟨(some 75), (.mov (.t 15)), none, []⟩, ⟨(some 76), (.bin .neq (.t 75) (.c (.int .i64 0))), none, []⟩]) (.cond (.t 76) (.seq (.region [⟨(some 77), (.build [(.int .i64 0), (.int .i64 0), .nils, .nils] []), none, []⟩, ⟨(some
  78), (.mov (.t 15)), none, []⟩, ⟨none, (.store none 4 (.t 6) (.t 77)), none, []⟩, ⟨(some 7), (.mov (.t 78)), none, []⟩]) .ret) .skip)) (.seq (.region [⟨(some 79), (.load none (some 4) (.t 11)), none, []⟩, ⟨(some 80), (.load none (some 4)
  (.t 14)), none, []⟩, ⟨(some 81), (.call (.c (.fn 45 [])) [(.t 79), (.t 80)]), none, []⟩, ⟨(some 82), (.ext 0 (.t 81)), none, []⟩, ⟨(some 83), (.ext 1 (.t 81)), none, []⟩, ⟨none, (.store none 4 (.t 6) (.t 82)), none, []⟩, ⟨(some 7), (.mov
  (.t 83)), none, []⟩]) .ret)))))))))))⟩
theorem irOk61 : compFun Tryz.prog.underlying Tryz.prog.info? sq Tryz.f61 = some ir61 := by kernel_rfl
def ir64 : BFun := ⟨[(.cell 6 (some 4)), (.tmp 7)], (.seq (.region [⟨(some 3), (.box 2 (.t 0)), none, []⟩, ⟨(some 6), (.new 29 [(.int .i64 0), (.int .i64 0), .nils, .nils]), none, []⟩, ⟨(some 7), (.mov (.c (.int .i64 0))), none, []⟩]) (.seq
  (.region [⟨(some 19), (.mov (.t 1)), none, []⟩, ⟨(some 20), (.len 1 (.t 19)), none, []⟩, ⟨(some 8), (.mov (.t 20)), none, []⟩]) (.seq (.region [⟨(some 21), (.mov (.t 8)), none, []⟩, ⟨(some 22), (.call (.c (.fn 110 [])) [(.t 21)]), none,
  []⟩, ⟨(some 23), (.mksl 2 8 [(.int .i64 0)] (.t 22) (.t 22)), none, []⟩, ⟨(some 9), (.new 67 [.nils]), none, []⟩, ⟨none, (.store none 1 (.t 9) (.t 23)), none, []⟩]) (.seq (.seq (.region [⟨(some 24), (.load none none (.t 9)), none, []⟩,
  ⟨(some 25), (.len 1 (.t 24)), none, []⟩, ⟨(some 26), (.mov (.c (.int .i64 0))), none, []⟩]) (.block 0 (.loop (.seq (.region [⟨(some 27), (.bin .lss (.t 26) (.t 25)), none, []⟩]) (.seq (.cond (.t 27) .skip (.exit 0)) (.seq (.block 1 (.seq
  (.region [⟨(some 28), (.mov (.t 26)), none, []⟩, ⟨(some 10), (.mov (.t 28)), none, []⟩]) (.seq (.region [⟨(some 29), (.mov (.t 8)), none, []⟩, ⟨(some 30), (.mov (.t 10)), none, []⟩, ⟨(some 31), (.call (.c (.fn 111 [])) [(.t 29), (.t 30)]),
  none, []⟩, ⟨(some 32), (.len 1 (.t 31)), none, []⟩, ⟨(some 33), (.mov (.c (.int .i64 0))), none, []⟩]) (.block 2 (.loop (.seq (.region [⟨(some 34), (.bin .lss (.t 33) (.t 32)), none, []⟩]) (.seq (.cond (.t 34) .skip (.exit 2)) (.seq
  (.block 3 (.seq (.region [⟨(some 35), (.mov (.t 33)), none, []⟩, ⟨(some 36), (.idx 1 (.t 31) (.t 33)), none, []⟩, ⟨(some 37), (.load none none (.t 36)), none, []⟩, ⟨(some 11), (.mov (.t 35)), none, []⟩, ⟨(some 12), (.mov (.t 37)), none,
  []⟩]) (.seq (.region [⟨(some 38), (.mov (.t 12)), none, []⟩, ⟨(some 39), (.bin .eql (.t 38) (.c (.int .i64 1))), none, []⟩]) (.cond (.t 39) (.region [⟨(some 40), (.load none none (.t 9)), none, []⟩, ⟨(some 41), (.mov (.t 10)), none, []⟩,
  ⟨(some 42), (.idx 1 (.t 40) (.t 41)), none, []⟩, ⟨(some 43), (.load none none (.t 42)), none, []⟩, ⟨(some 44), (.mov (.t 1)), none, []⟩, ⟨(some 45), (.mov (.t 11)), none, []⟩, ⟨(some 46), (.idx 1 (.t 44) (.t 45)), none, []⟩, ⟨(some 47),
  (.load none none (.t 46)), none, []⟩, ⟨(some 48), (.bin .add (.t 43) (.t 47)), none, []⟩, ⟨(some 49), (.idx 1 (.t 40) (.t 41)), none, []⟩, ⟨none, (.store none 1 (.t 49) (.t 48)), none, []⟩]) .skip)))) (.region [⟨(some 50), (.bin .add (.t
  33) (.c (.int .i64 1))), none, []⟩, ⟨(some 33), (.mov (.t 50)), none, []⟩]))))))))) (.region [⟨(some 51), (.bin .add (.t 26) (.c (.int .i64 1))), none, []⟩, ⟨(some 26), (.mov (.t 51)), none, []⟩]))))))) (.seq (.region [⟨(some 53), (.mov
  (.t 8)), none, []⟩, ⟨(some 54), (.mov (.t 2)), none, []⟩, ⟨(some 55), (.mkfn 113 [(.t 3)]), none, []⟩, ⟨(some 56), (.mkfn 114 [(.t 9), (.t 3)]), none, []⟩, ⟨(some 57), (.call (.c (.fn 112 [])) [(.t 53), (.t 54), (.c (.int .i64 1000)), (.t
  55), (.t 56)]), none, []⟩, ⟨(some 52), (.mov (.t 57)), none, []⟩, ⟨(some 58), (.ext 0 (.t 52)), none, []⟩, ⟨(some 59), (.ext 1 (.t 52)), none, []⟩, ⟨(some 13), (.new 80 [(.int .i64 0), (.int .i64 0), .nils, .nils]), none, []⟩, ⟨none,
  (.store none 4 (.t 13) (.t 58)), none, []⟩, ⟨(some 14), (.mov (.t 59)), none, []⟩]) (.seq (.seq (.region [⟨(some 60), (.mov (.t 14)), none, []⟩, ⟨(some 61), (.not (.t 60)), none, []⟩]) (.cond (.t 61) (.seq (.region [⟨(some 62), (.build
  [(.int .i64 0), (.int .i64 0), .nils, .nils] []), none, []⟩, ⟨none, (.store none 4 (.t 6) (.t 62)), none, []⟩, ⟨(some 7), (.mov (.c (.int .i64 3))), none, []⟩]) .ret) .skip)) (.seq (.region [⟨(some 64), (.load none (some 4) (.t 13)), none,
  []⟩, ⟨(some 65), (.call (.c (.fn 95 [])) [(.t 64)]), none, []⟩, ⟨(some 63), (.mov (.t 65)), none, []⟩, ⟨(some 66), (.ext 0 (.t 63)), none, []⟩, ⟨(some 67), (.ext 1 (.t 63)), none, []⟩, ⟨(some 15), (.new 29 [(.int .i64 0), (.int .i64 0),
  .nils, .nils]), none, []⟩, ⟨none, (.store none 4 (.t 15) (.t 66)), none, []⟩, ⟨(some 16), (.mov (.t 67)), none, []⟩]) (.seq (.region [⟨(some 69), (.mov (.t 8)), none, []⟩, ⟨(some 70), (.call (.c (.fn 115 [])) [(.t 69)]), none, []⟩, ⟨(some
  68), (.mov (.t 70)), none, []⟩, ⟨(some 71), (.ext 0 (.t 68)), none, []⟩, ⟨(some 72), (.ext 1 (.t 68)), none, []⟩, ⟨(some 17), (.new 29 [(.int .i64 0), (.int .i64 0), .nils, .nils]), none, []⟩, ⟨none, (.store none 4 (.t 17) (.t 71)), none,
  []⟩, ⟨(some 18), (.mov (.t 72)), none, []⟩]) (.seq (.region [⟨(some 73), (.load none (some 4) (.t 15)), none, []⟩, ⟨(some 74), (.mov (.t 16)), none, []⟩, ⟨(some 75), (.load none (some 4) (.t 17)), none, []⟩, ⟨(some 76), (.mov (.t 18)),
  none, []⟩, ⟨(some 77), (.call (.c (.fn 48 [])) [(.t 73), (.t 74), (.t 75), (.t 76)]), none, []⟩, ⟨(some 78), (.ext 0 (.t 77)), none, []⟩, ⟨(some 79), (.ext 1 (.t 77)), none, []⟩, ⟨none, (.store none 4 (.t 6) (.t 78)), none, []⟩, ⟨(some 7),
  (.mov (.t 79)), none, []⟩]) .ret)))))))))⟩
theorem irOk64 : compFun Tryz.prog.underlying Tryz.prog.info? sq Tryz.f64 = some ir64 := by kernel_rfl
def ir67 : BFun := ⟨[(.cell 2 (some 4))], (.seq (.region [⟨(some 2), (.new 29 [(.int .i64 0), (.int .i64 0), .nils, .nils]), none, []⟩]) (.seq (.region [⟨(some 17), (.mov (.t 0)), none, []⟩, ⟨(some 18), (.call (.c (.fn 116 [])) [(.t 17)]),
  none, []⟩, ⟨(some 3), (.new 29 [(.int .i64 0), (.int .i64 0), .nils, .nils]), none, []⟩, ⟨none, (.store none 4 (.t 3) (.t 18)), none, []⟩]) (.seq (.region [⟨(some 19), (.lea 2 (.t 3)), none, []⟩, ⟨(some 20), (.load none none (.t 19)),
  none, []⟩, ⟨(some 21), (.len 1 (.t 20)), none, []⟩, ⟨(some 22), (.mksl 2 8 [(.int .i64 0)] (.t 21) (.t 21)), none, []⟩, ⟨(some 4), (.mov (.t 22)), none, []⟩]) (.seq (.seq (.region [⟨(some 5), (.mov (.c (.int .i64 0))), none, []⟩]) (.block
  0 (.loop (.seq (.seq (.region [⟨(some 23), (.mov (.t 5)), none, []⟩, ⟨(some 24), (.lea 2 (.t 3)), none, []⟩, ⟨(some 25), (.load none none (.t 24)), none, []⟩, ⟨(some 26), (.len 1 (.t 25)), none, []⟩, ⟨(some 27), (.bin .lss (.t 23) (.t
  26)), none, []⟩]) (.cond (.t 27) .skip (.exit 0))) (.seq (.block 1 (.seq (.region [⟨(some 30), (.lea 2 (.t 3)), none, []⟩, ⟨(some 31), (.load none none (.t 30)), none, []⟩, ⟨(some 32), (.mov (.t 5)), none, []⟩, ⟨(some 33), (.idx 1 (.t 31)
  (.t 32)), none, []⟩, ⟨(some 34), (.load none none (.t 33)), none, []⟩]) (.cond (.t 34) (.region [⟨(some 35), (.mov (.t 4)), none, []⟩, ⟨(some 36), (.mov (.t 5)), none, []⟩, ⟨(some 37), (.idx 1 (.t 35) (.t 36)), none, []⟩, ⟨none, (.store
  none 1 (.t 37) (.c (.int .i64 1))), none, []⟩]) .skip))) (.region [⟨(some 28), (.mov (.t 5)), none, []⟩, ⟨(some 29), (.bin .add (.t 28) (.c (.int .i64 1))), none, []⟩, ⟨(some 5), (.mov (.t 29)), none, []⟩])))))) (.seq (.region [⟨(some 6),
  (.mov (.c (.int .i64 0))), none, []⟩]) (.seq (.block 2 (.loop (.block 3 (.seq (.region [⟨(some 39), (.mov (.t 4)), none, []⟩, ⟨(some 40), (.call (.c (.fn 117 [])) [(.t 3), (.t 39)]), none, []⟩, ⟨(some 38), (.mov (.t 40)), none, []⟩, ⟨(some
  41), (.ext 0 (.t 38)), none, []⟩, ⟨(some 42), (.ext 1 (.t 38)), none, []⟩, ⟨(some 7), (.mov (.t 41)), none, []⟩, ⟨(some 8), (.mov (.t 42)), none, []⟩]) (.seq (.region [⟨(some 43), (.mov (.t 7)), none, []⟩, ⟨(some 4), (.mov (.t 43)), none,
  []⟩]) (.seq (.seq (.region [⟨(some 44), (.mov (.t 8)), none, []⟩, ⟨(some 45), (.mov (.t 6)), none, []⟩, ⟨(some 46), (.bin .eql (.t 44) (.t 45)), none, []⟩]) (.cond (.t 46) (.exit 2) .skip)) (.region [⟨(some 47), (.mov (.t 8)), none, []⟩,
  ⟨(some 6), (.mov (.t 47)), none, []⟩]))))))) (.seq (.region [⟨(some 48), (.mov (.t 6)), none, []⟩, ⟨(some 49), (.mksl 2 8 [(.int .i64 0)] (.t 48) (.t 48)), none, []⟩, ⟨(some 9), (.mov (.t 49)), none, []⟩]) (.seq (.seq (.region [⟨(some 10),
  (.mov (.c (.int .i64 0))), none, []⟩]) (.block 4 (.loop (.seq (.seq (.region [⟨(some 50), (.mov (.t 10)), none, []⟩, ⟨(some 51), (.mov (.t 6)), none, []⟩, ⟨(some 52), (.bin .lss (.t 50) (.t 51)), none, []⟩]) (.cond (.t 52) .skip (.exit
  4))) (.seq (.block 5 (.region [⟨(some 55), (.mov (.t 9)), none, []⟩, ⟨(some 56), (.mov (.t 10)), none, []⟩, ⟨(some 57), (.idx 1 (.t 55) (.t 56)), none, []⟩, ⟨none, (.store none 1 (.t 57) (.c (.int .i64 (-1)))), none, []⟩])) (.region
  [⟨(some 53), (.mov (.t 10)), none, []⟩, ⟨(some 54), (.bin .add (.t 53) (.c (.int .i64 1))), none, []⟩, ⟨(some 10), (.mov (.t 54)), none, []⟩])))))) (.seq (.region [⟨(some 58), (.lea 1 (.t 3)), none, []⟩, ⟨(some 59), (.load none none (.t
  58)), none, []⟩, ⟨(some 60), (.mk 2 1 [(.int .i64 0)] [(0, (1, (.t 59)))]), none, []⟩, ⟨(some 11), (.mov (.t 60)), none, []⟩]) (.seq (.region [⟨(some 61), (.mov (.t 9)), none, []⟩, ⟨(some 62), (.mov (.t 4)), none, []⟩, ⟨(some 63), (.lea 1
  (.t 3)), none, []⟩, ⟨(some 64), (.load none none (.t 63)), none, []⟩, ⟨(some 65), (.idx 1 (.t 62) (.t 64)), none, []⟩, ⟨(some 66), (.load none none (.t 65)), none, []⟩, ⟨(some 67), (.idx 1 (.t 61) (.t 66)), none, []⟩, ⟨none, (.store none 1
  (.t 67) (.c (.int .i64 0))), none, []⟩]) (.seq (.region [⟨(some 68), (.mov (.t 0)), none, []⟩, ⟨(some 69), (.nilck (.t 68)), none, []⟩, ⟨(some 70), (.lea 0 (.t 69)), none, []⟩, ⟨(some 71), (.load none none (.t 70)), none, []⟩, ⟨(some 72),
  (.build [(.int .i64 0), (.int .i64 0), .nils, .nils] [(0, (1, (.t 71)))]), none, []⟩, ⟨(some 12), (.new 29 [(.int .i64 0), (.int .i64 0), .nils, .nils]), none, []⟩, ⟨none, (.store none 4 (.t 12) (.t 72)), none, []⟩]) (.seq (.seq (.region
  [⟨(some 13), (.mov (.c (.int .i64 0))), none, []⟩]) (.block 6 (.loop (.seq (.seq (.region [⟨(some 73), (.mov (.t 13)), none, []⟩, ⟨(some 74), (.mov (.t 11)), none, []⟩, ⟨(some 75), (.len 1 (.t 74)), none, []⟩, ⟨(some 76), (.bin .lss (.t
  73) (.t 75)), none, []⟩]) (.cond (.t 76) .skip (.exit 6))) (.seq (.block 7 (.seq (.region [⟨(some 79), (.mk 2 0 [] []), none, []⟩, ⟨(some 14), (.mov (.t 79)), none, []⟩]) (.seq (.seq (.region [⟨(some 15), (.mov (.c (.int .i64 0))), none,
  []⟩]) (.block 8 (.loop (.seq (.seq (.region [⟨(some 80), (.mov (.t 15)), none, []⟩, ⟨(some 81), (.lea 3 (.t 3)), none, []⟩, ⟨(some 82), (.load none none (.t 81)), none, []⟩, ⟨(some 83), (.mov (.t 11)), none, []⟩, ⟨(some 84), (.mov (.t
  13)), none, []⟩, ⟨(some 85), (.idx 1 (.t 83) (.t 84)), none, []⟩, ⟨(some 86), (.load none none (.t 85)), none, []⟩, ⟨(some 87), (.idx 1 (.t 82) (.t 86)), none, []⟩, ⟨(some 88), (.load none none (.t 87)), none, []⟩, ⟨(some 89), (.len 1 (.t
  88)), none, []⟩, ⟨(some 90), (.bin .lss (.t 80) (.t 89)), none, []⟩]) (.cond (.t 90) .skip (.exit 8))) (.seq (.block 9 (.seq (.region [⟨(some 93), (.lea 3 (.t 3)), none, []⟩, ⟨(some 94), (.load none none (.t 93)), none, []⟩, ⟨(some 95),
  (.mov (.t 11)), none, []⟩, ⟨(some 96), (.mov (.t 13)), none, []⟩, ⟨(some 97), (.idx 1 (.t 95) (.t 96)), none, []⟩, ⟨(some 98), (.load none none (.t 97)), none, []⟩, ⟨(some 99), (.idx 1 (.t 94) (.t 98)), none, []⟩, ⟨(some 100), (.load none
  none (.t 99)), none, []⟩, ⟨(some 101), (.mov (.t 15)), none, []⟩, ⟨(some 102), (.idx 1 (.t 100) (.t 101)), none, []⟩, ⟨(some 103), (.load none none (.t 102)), none, []⟩, ⟨(some 16), (.mov (.t 103)), none, []⟩]) (.seq (.seq (.region [⟨(some
  104), (.mov (.t 9)), none, []⟩, ⟨(some 105), (.mov (.t 4)), none, []⟩, ⟨(some 106), (.mov (.t 16)), none, []⟩, ⟨(some 107), (.idx 1 (.t 105) (.t 106)), none, []⟩, ⟨(some 108), (.load none none (.t 107)), none, []⟩, ⟨(some 109), (.idx 1 (.t
  104) (.t 108)), none, []⟩, ⟨(some 110), (.load none none (.t 109)), none, []⟩, ⟨(some 111), (.bin .lss (.t 110) (.c (.int .i64 0))), none, []⟩]) (.cond (.t 111) (.seq (.region [⟨(some 112), (.mov (.t 9)), none, []⟩, ⟨(some 113), (.mov (.t
  4)), none, []⟩, ⟨(some 114), (.mov (.t 16)), none, []⟩, ⟨(some 115), (.idx 1 (.t 113) (.t 114)), none, []⟩, ⟨(some 116), (.load none none (.t 115)), none, []⟩, ⟨(some 117), (.mov (.t 11)), none, []⟩, ⟨(some 118), (.len 1 (.t 117)), none,
  []⟩, ⟨(some 119), (.idx 1 (.t 112) (.t 116)), none, []⟩, ⟨none, (.store none 1 (.t 119) (.t 118)), none, []⟩]) (.region [⟨(some 120), (.mov (.t 11)), none, []⟩, ⟨(some 121), (.mov (.t 16)), none, []⟩, ⟨(some 122), (.mk 2 1 [(.int .i64 0)]
  [(0, (1, (.t 121)))]), none, []⟩, ⟨(some 123), (.app 2 1 8 (.t 120) (.t 122)), none, []⟩, ⟨(some 11), (.mov (.t 123)), none, []⟩])) .skip)) (.region [⟨(some 124), (.mov (.t 14)), none, []⟩, ⟨(some 125), (.mov (.t 9)), none, []⟩, ⟨(some
  126), (.mov (.t 4)), none, []⟩, ⟨(some 127), (.mov (.t 16)), none, []⟩, ⟨(some 128), (.idx 1 (.t 126) (.t 127)), none, []⟩, ⟨(some 129), (.load none none (.t 128)), none, []⟩, ⟨(some 130), (.idx 1 (.t 125) (.t 129)), none, []⟩, ⟨(some
  131), (.load none none (.t 130)), none, []⟩, ⟨(some 132), (.mk 2 1 [(.int .i64 0)] [(0, (1, (.t 131)))]), none, []⟩, ⟨(some 133), (.app 2 1 8 (.t 124) (.t 132)), none, []⟩, ⟨(some 14), (.mov (.t 133)), none, []⟩])))) (.region [⟨(some 91),
  (.mov (.t 15)), none, []⟩, ⟨(some 92), (.bin .add (.t 91) (.c (.int .i64 1))), none, []⟩, ⟨(some 15), (.mov (.t 92)), none, []⟩])))))) (.seq (.region [⟨(some 134), (.lea 2 (.t 12)), none, []⟩, ⟨(some 135), (.load none none (.t 134)), none,
  []⟩, ⟨(some 136), (.lea 2 (.t 3)), none, []⟩, ⟨(some 137), (.load none none (.t 136)), none, []⟩, ⟨(some 138), (.mov (.t 11)), none, []⟩, ⟨(some 139), (.mov (.t 13)), none, []⟩, ⟨(some 140), (.idx 1 (.t 138) (.t 139)), none, []⟩, ⟨(some
  141), (.load none none (.t 140)), none, []⟩, ⟨(some 142), (.idx 1 (.t 137) (.t 141)), none, []⟩, ⟨(some 143), (.load none none (.t 142)), none, []⟩, ⟨(some 144), (.mk 4 1 [(.bool false)] [(0, (1, (.t 143)))]), none, []⟩, ⟨(some 145), (.app
  4 1 1 (.t 135) (.t 144)), none, []⟩, ⟨(some 146), (.lea 2 (.t 12)), none, []⟩, ⟨none, (.store none 1 (.t 146) (.t 145)), none, []⟩]) (.region [⟨(some 147), (.lea 3 (.t 12)), none, []⟩, ⟨(some 148), (.load none none (.t 147)), none, []⟩,
  ⟨(some 149), (.mov (.t 14)), none, []⟩, ⟨(some 150), (.mk 67 1 [.nils] [(0, (1, (.t 149)))]), none, []⟩, ⟨(some 151), (.app 67 1 24 (.t 148) (.t 150)), none, []⟩, ⟨(some 152), (.lea 3 (.t 12)), none, []⟩, ⟨none, (.store none 1 (.t 152) (.t
  151)), none, []⟩]))))) (.region [⟨(some 77), (.mov (.t 13)), none, []⟩, ⟨(some 78), (.bin .add (.t 77) (.c (.int .i64 1))), none, []⟩, ⟨(some 13), (.mov (.t 78)), none, []⟩])))))) (.seq (.region [⟨(some 153), (.load none (some 4) (.t 12)),
  none, []⟩, ⟨none, (.store none 4 (.t 2) (.t 153)), none, []⟩]) .ret)))))))))))))⟩
theorem irOk67 : compFun Tryz.prog.underlying Tryz.prog.info? sq Tryz.f67 = some ir67 := by kernel_rfl
def ir73 : BFun := ⟨[(.tmp 2)], (.seq (.region [⟨(some 1), (.box 29 (.t 0)), none, []⟩, ⟨(some 2), (.mov (.c (.bool false))), none, []⟩]) (.seq (.region [⟨(some 8), (.lea 2 (.t 1)), none, []⟩, ⟨(some 9), (.load none none (.t 8)), none, []⟩,
  ⟨(some 10), (.len 1 (.t 9)), none, []⟩, ⟨(some 3), (.mov (.t 10)), none, []⟩]) (.seq (.seq (.region [⟨(some 11), (.lea 0 (.t 1)), none, []⟩, ⟨(some 12), (.load none none (.t 11)), none, []⟩, ⟨(some 13), (.call (.c (.fn 123 [])) [(.t 12)]),
  none, []⟩, ⟨(some 14), (.not (.t 13)), none, []⟩, ⟨(some 15), (.mov (.t 14)), none, []⟩, ⟨(some 16), (.mov (.t 3)), (some (15, false)), []⟩, ⟨(some 17), (.call (.c (.fn 58 [])) [(.t 16), (.c (.int .i64 1)), (.c (.int .i64 150))]), (some
  (15, false)), []⟩, ⟨(some 18), (.not (.t 17)), (some (15, false)), []⟩, ⟨(some 19), (.pick (.t 15) (.c (.bool true)) (.t 18)), none, []⟩, ⟨(some 20), (.mov (.t 19)), none, []⟩, ⟨(some 21), (.lea 3 (.t 1)), (some (20, false)), []⟩, ⟨(some
  22), (.load none none (.t 21)), (some (20, false)), []⟩, ⟨(some 23), (.len 1 (.t 22)), (some (20, false)), []⟩, ⟨(some 24), (.mov (.t 3)), (some (20, false)), []⟩, ⟨(some 25), (.bin .neq (.t 23) (.t 24)), (some (20, false)), []⟩, ⟨(some
  26), (.pick (.t 20) (.c (.bool true)) (.t 25)), none, []⟩, ⟨(some 27), (.mov (.t 26)), none, []⟩, ⟨(some 28), (.lea 1 (.t 1)), (some (27, false)), []⟩, ⟨(some 29), (.load none none (.t 28)), (some (27, false)), []⟩, ⟨(some 30), (.mov (.t
  3)), (some (27, false)), []⟩, ⟨(some 31), (.bin .sub (.t 30) (.c (.int .i64 1))), (some (27, false)), []⟩, ⟨(some 32), (.call (.c (.fn 58 [])) [(.t 29), (.c (.int .i64 0)), (.t 31)]), (some (27, false)), []⟩, ⟨(some 33), (.not (.t 32)),
  (some (27, false)), []⟩, ⟨(some 34), (.pick (.t 27) (.c (.bool true)) (.t 33)), none, []⟩]) (.cond (.t 34) (.seq (.region [⟨(some 2), (.mov (.c (.bool false))), none, []⟩]) .ret) .skip)) (.seq (.seq (.region [⟨(some 35), (.lea 3 (.t 1)),
  none, []⟩, ⟨(some 36), (.load none none (.t 35)), none, []⟩, ⟨(some 37), (.len 1 (.t 36)), none, []⟩, ⟨(some 38), (.mov (.c (.int .i64 0))), none, []⟩]) (.block 0 (.loop (.seq (.region [⟨(some 39), (.bin .lss (.t 38) (.t 37)), none, []⟩])
  (.seq (.cond (.t 39) .skip (.exit 0)) (.seq (.block 1 (.seq (.region [⟨(some 40), (.idx 1 (.t 36) (.t 38)), none, []⟩, ⟨(some 41), (.load none none (.t 40)), none, []⟩, ⟨(some 5), (.mov (.t 41)), none, []⟩]) (.seq (.seq (.region [⟨(some
  42), (.mov (.t 5)), none, []⟩, ⟨(some 43), (.len 1 (.t 42)), none, []⟩, ⟨(some 44), (.lea 0 (.t 1)), none, []⟩, ⟨(some 45), (.load none none (.t 44)), none, []⟩, ⟨(some 46), (.call (.c (.fn 110 [])) [(.t 45)]), none, []⟩, ⟨(some 47), (.bin
  .neq (.t 43) (.t 46)), none, []⟩]) (.cond (.t 47) (.seq (.region [⟨(some 2), (.mov (.c (.bool false))), none, []⟩]) .ret) .skip)) (.seq (.region [⟨(some 48), (.mov (.t 5)), none, []⟩, ⟨(some 49), (.len 1 (.t 48)), none, []⟩, ⟨(some 50),
  (.mov (.c (.int .i64 0))), none, []⟩]) (.block 2 (.loop (.seq (.region [⟨(some 51), (.bin .lss (.t 50) (.t 49)), none, []⟩]) (.seq (.cond (.t 51) .skip (.exit 2)) (.seq (.block 3 (.seq (.region [⟨(some 52), (.idx 1 (.t 48) (.t 50)), none,
  []⟩, ⟨(some 53), (.load none none (.t 52)), none, []⟩, ⟨(some 7), (.mov (.t 53)), none, []⟩]) (.seq (.region [⟨(some 54), (.mov (.t 7)), none, []⟩, ⟨(some 55), (.mov (.t 3)), none, []⟩, ⟨(some 56), (.bin .sub (.t 55) (.c (.int .i64 1))),
  none, []⟩, ⟨(some 57), (.call (.c (.fn 58 [])) [(.t 54), (.c (.int .i64 0)), (.t 56)]), none, []⟩, ⟨(some 58), (.not (.t 57)), none, []⟩]) (.cond (.t 58) (.seq (.region [⟨(some 2), (.mov (.c (.bool false))), none, []⟩]) .ret) .skip))))
  (.region [⟨(some 59), (.bin .add (.t 50) (.c (.int .i64 1))), none, []⟩, ⟨(some 50), (.mov (.t 59)), none, []⟩])))))))))) (.region [⟨(some 60), (.bin .add (.t 38) (.c (.int .i64 1))), none, []⟩, ⟨(some 38), (.mov (.t 60)), none,
  []⟩]))))))) (.seq (.region [⟨(some 2), (.mov (.c (.bool true))), none, []⟩]) .ret)))))⟩
theorem irOk73 : compFun Tryz.prog.underlying Tryz.prog.info? sq Tryz.f73 = some ir73 := by kernel_rfl
def ir75 : BFun := ⟨[(.cell 2 (some 4))], (.seq (.region [⟨(some 1), (.box 29 (.t 0)), none, []⟩, ⟨(some 2), (.new 80 [(.int .i64 0), (.int .i64 0), .nils, .nils]), none, []⟩]) (.seq (.region [⟨(some 3), (.load none (some 4) (.t 1)), none,
  []⟩, ⟨(some 4), (.call (.c (.fn 126 [])) [(.t 3)]), none, []⟩, ⟨(some 5), (.call (.c (.fn 127 [])) [(.t 4)]), none, []⟩, ⟨none, (.store none 4 (.t 2) (.t 5)), none, []⟩]) .ret))⟩
theorem irOk75 : compFun Tryz.prog.underlying Tryz.prog.info? sq Tryz.f75 = some ir75 := by kernel_rfl
def ir82 : BFun := ⟨[(.tmp 4)], (.seq (.region [⟨(some 4), (.mov (.c (.bool false))), none, []⟩]) (.seq (.seq (.region [⟨(some 6), (.mov (.t 0)), none, []⟩, ⟨(some 7), (.len 1 (.t 6)), none, []⟩, ⟨(some 8), (.mov (.t 1)), none, []⟩, ⟨(some
  9), (.len 1 (.t 8)), none, []⟩, ⟨(some 10), (.bin .neq (.t 7) (.t 9)), none, []⟩]) (.cond (.t 10) (.seq (.region [⟨(some 4), (.mov (.c (.bool false))), none, []⟩]) .ret) .skip)) (.seq (.seq (.region [⟨(some 5), (.mov (.c (.int .i64 0))),
  none, []⟩]) (.block 0 (.loop (.seq (.seq (.region [⟨(some 11), (.mov (.t 5)), none, []⟩, ⟨(some 12), (.mov (.t 0)), none, []⟩, ⟨(some 13), (.len 1 (.t 12)), none, []⟩, ⟨(some 14), (.bin .lss (.t 11) (.t 13)), none, []⟩]) (.cond (.t 14)
  .skip (.exit 0))) (.seq (.block 1 (.seq (.region [⟨(some 17), (.mov (.t 0)), none, []⟩, ⟨(some 18), (.mov (.t 5)), none, []⟩, ⟨(some 19), (.idx 1 (.t 17) (.t 18)), none, []⟩, ⟨(some 20), (.load none none (.t 19)), none, []⟩, ⟨(some 21),
  (.mov (.t 1)), none, []⟩, ⟨(some 22), (.mov (.t 5)), none, []⟩, ⟨(some 23), (.idx 1 (.t 21) (.t 22)), none, []⟩, ⟨(some 24), (.load none none (.t 23)), none, []⟩, ⟨(some 25), (.bin .neq (.t 20) (.t 24)), none, []⟩]) (.cond (.t 25) (.seq
  (.region [⟨(some 4), (.mov (.c (.bool false))), none, []⟩]) .ret) .skip))) (.region [⟨(some 15), (.mov (.t 5)), none, []⟩, ⟨(some 16), (.bin .add (.t 15) (.c (.int .i64 1))), none, []⟩, ⟨(some 5), (.mov (.t 16)), none, []⟩])))))) (.seq
  (.region [⟨(some 4), (.mov (.c (.bool true))), none, []⟩]) .ret))))⟩
theorem irOk82 : compFun Tryz.prog.underlying Tryz.prog.info? sq Tryz.f82 = some ir82 := by kernel_rfl
def ir83 : BFun := ⟨[(.tmp 2)], (.seq (.region [⟨(some 2), (.mov (.c (.bool false))), none, []⟩]) (.seq (.region [⟨(some 6), (.mov (.t 0)), none, []⟩, ⟨(some 7), (.nilck (.t 6)), none, []⟩, ⟨(some 8), (.lea 2 (.t 7)), none, []⟩, ⟨(some 9),
  (.load none none (.t 8)), none, []⟩, ⟨(some 10), (.len 1 (.t 9)), none, []⟩, ⟨(some 3), (.mov (.t 10)), none, []⟩]) (.seq (.seq (.region [⟨(some 11), (.mov (.t 0)), none, []⟩, ⟨(some 12), (.nilck (.t 11)), none, []⟩, ⟨(some 13), (.lea 0
  (.t 12)), none, []⟩, ⟨(some 14), (.load none none (.t 13)), none, []⟩, ⟨(some 15), (.call (.c (.fn 56 [])) [(.t 14), (.c (.int .i64 1)), (.c (.int .i64 3))]), none, []⟩, ⟨(some 16), (.not (.t 15)), none, []⟩, ⟨(some 17), (.mov (.t 16)),
  none, []⟩, ⟨(some 18), (.mov (.t 3)), (some (17, false)), []⟩, ⟨(some 19), (.bin .lss (.t 18) (.c (.int .i64 1))), (some (17, false)), []⟩, ⟨(some 20), (.pick (.t 17) (.c (.bool true)) (.t 19)), none, []⟩, ⟨(some 21), (.mov (.t 20)), none,
  []⟩, ⟨(some 22), (.mov (.t 0)), (some (21, false)), []⟩, ⟨(some 23), (.nilck (.t 22)), (some (21, false)), []⟩, ⟨(some 24), (.lea 1 (.t 23)), (some (21, false)), []⟩, ⟨(some 25), (.load none none (.t 24)), (some (21, false)), []⟩, ⟨(some
  26), (.mov (.t 3)), (some (21, false)), []⟩, ⟨(some 27), (.bin .sub (.t 26) (.c (.int .i64 1))), (some (21, false)), []⟩, ⟨(some 28), (.call (.c (.fn 56 [])) [(.t 25), (.c (.int .i64 0)), (.t 27)]), (some (21, false)), []⟩, ⟨(some 29),
  (.not (.t 28)), (some (21, false)), []⟩, ⟨(some 30), (.pick (.t 21) (.c (.bool true)) (.t 29)), none, []⟩, ⟨(some 31), (.mov (.t 30)), none, []⟩, ⟨(some 32), (.mov (.t 0)), (some (31, false)), []⟩, ⟨(some 33), (.nilck (.t 32)), (some (31,
  false)), []⟩, ⟨(some 34), (.lea 3 (.t 33)), (some (31, false)), []⟩, ⟨(some 35), (.load none none (.t 34)), (some (31, false)), []⟩, ⟨(some 36), (.len 1 (.t 35)), (some (31, false)), []⟩, ⟨(some 37), (.mov (.t 3)), (some (31, false)), []⟩,
  ⟨(some 38), (.bin .neq (.t 36) (.t 37)), (some (31, false)), []⟩, ⟨(some 39), (.pick (.t 31) (.c (.bool true)) (.t 38)), none, []⟩]) (.cond (.t 39) (.seq (.region [⟨(some 2), (.mov (.c (.bool false))), none, []⟩]) .ret) .skip)) (.seq (.seq
  (.region [⟨(some 4), (.mov (.c (.int .i64 0))), none, []⟩]) (.block 0 (.loop (.seq (.seq (.region [⟨(some 40), (.mov (.t 4)), none, []⟩, ⟨(some 41), (.mov (.t 0)), none, []⟩, ⟨(some 42), (.nilck (.t 41)), none, []⟩, ⟨(some 43), (.lea 3 (.t
  42)), none, []⟩, ⟨(some 44), (.load none none (.t 43)), none, []⟩, ⟨(some 45), (.len 1 (.t 44)), none, []⟩, ⟨(some 46), (.bin .lss (.t 40) (.t 45)), none, []⟩]) (.cond (.t 46) .skip (.exit 0))) (.seq (.block 1 (.seq (.seq (.region [⟨(some
  49), (.mov (.t 0)), none, []⟩, ⟨(some 50), (.nilck (.t 49)), none, []⟩, ⟨(some 51), (.lea 3 (.t 50)), none, []⟩, ⟨(some 52), (.load (some 29) none (.t 51)), none, []⟩, ⟨(some 53), (.mov (.t 4)), none, []⟩, ⟨(some 54), (.idx 1 (.t 52) (.t
  53)), none, []⟩, ⟨(some 55), (.load (some 67) none (.t 54)), none, []⟩, ⟨(some 56), (.len 1 (.t 55)), none, []⟩, ⟨(some 57), (.mov (.t 0)), none, []⟩, ⟨(some 58), (.nilck (.t 57)), none, []⟩, ⟨(some 59), (.lea 0 (.t 58)), none, []⟩, ⟨(some
  60), (.load none none (.t 59)), none, []⟩, ⟨(some 61), (.call (.c (.fn 135 [])) [(.t 60)]), none, [29, 67]⟩, ⟨(some 62), (.bin .neq (.t 56) (.t 61)), none, []⟩]) (.cond (.t 62) (.seq (.region [⟨(some 2), (.mov (.c (.bool false))), none,
  []⟩]) .ret) .skip)) (.seq (.region [⟨(some 5), (.mov (.c (.int .i64 0))), none, []⟩]) (.block 2 (.loop (.seq (.seq (.region [⟨(some 63), (.mov (.t 5)), none, []⟩, ⟨(some 64), (.mov (.t 0)), none, []⟩, ⟨(some 65), (.nilck (.t 64)), none,
  []⟩, ⟨(some 66), (.lea 3 (.t 65)), none, []⟩, ⟨(some 67), (.load none none (.t 66)), none, []⟩, ⟨(some 68), (.mov (.t 4)), none, []⟩, ⟨(some 69), (.idx 1 (.t 67) (.t 68)), none, []⟩, ⟨(some 70), (.load none none (.t 69)), none, []⟩, ⟨(some
  71), (.len 1 (.t 70)), none, []⟩, ⟨(some 72), (.bin .lss (.t 63) (.t 71)), none, []⟩]) (.cond (.t 72) .skip (.exit 2))) (.seq (.block 3 (.seq (.region [⟨(some 75), (.mov (.t 0)), none, []⟩, ⟨(some 76), (.nilck (.t 75)), none, []⟩, ⟨(some
  77), (.lea 3 (.t 76)), none, []⟩, ⟨(some 78), (.load none none (.t 77)), none, []⟩, ⟨(some 79), (.mov (.t 4)), none, []⟩, ⟨(some 80), (.idx 1 (.t 78) (.t 79)), none, []⟩, ⟨(some 81), (.load none none (.t 80)), none, []⟩, ⟨(some 82), (.mov
  (.t 5)), none, []⟩, ⟨(some 83), (.idx 1 (.t 81) (.t 82)), none, []⟩, ⟨(some 84), (.load none none (.t 83)), none, []⟩, ⟨(some 85), (.mov (.t 3)), none, []⟩, ⟨(some 86), (.bin .sub (.t 85) (.c (.int .i64 1))), none, []⟩, ⟨(some 87), (.call
  (.c (.fn 56 [])) [(.t 84), (.c (.int .i64 0)), (.t 86)]), none, []⟩, ⟨(some 88), (.not (.t 87)), none, []⟩]) (.cond (.t 88) (.seq (.region [⟨(some 2), (.mov (.c (.bool false))), none, []⟩]) .ret) .skip))) (.region [⟨(some 73), (.mov (.t
  5)), none, []⟩, ⟨(some 74), (.bin .add (.t 73) (.c (.int .i64 1))), none, []⟩, ⟨(some 5), (.mov (.t 74)), none, []⟩])))))))) (.region [⟨(some 47), (.mov (.t 4)), none, []⟩, ⟨(some 48), (.bin .add (.t 47) (.c (.int .i64 1))), none, []⟩,
  ⟨(some 4), (.mov (.t 48)), none, []⟩])))))) (.seq (.region [⟨(some 2), (.mov (.c (.bool true))), none, []⟩]) .ret)))))⟩
theorem irOk83 : compFun Tryz.prog.underlying Tryz.prog.info? sq Tryz.f83 = some ir83 := by kernel_rfl
def ir85 : BFun := ⟨[(.cell 0 (some 4))], (.seq (.region [⟨(some 0), (.new 29 [(.int .i64 0), (.int .i64 0), .nils, .nils]), none, []⟩]) (.seq (.region [⟨(some 1), (.mk 4 2 [(.bool false), (.bool false)] [(0, (1, (.c (.bool true)))), (1, (1,
  (.c (.bool false))))]), none, []⟩, ⟨(some 2), (.mk 2 2 [(.int .i64 0), (.int .i64 0)] [(0, (1, (.c (.int .i64 1)))), (1, (1, (.c (.int .i64 0))))]), none, []⟩, ⟨(some 3), (.mk 2 2 [(.int .i64 0), (.int .i64 0)] [(0, (1, (.c (.int .i64
  1)))), (1, (1, (.c (.int .i64 0))))]), none, []⟩, ⟨(some 4), (.mk 67 2 [.nils, .nils] [(0, (1, (.t 2))), (1, (1, (.t 3)))]), none, []⟩, ⟨(some 5), (.build [(.int .i64 0), (.int .i64 0), .nils, .nils] [(0, (1, (.c (.int .i64 1)))), (2, (1,
  (.t 1))), (3, (1, (.t 4)))]), none, []⟩, ⟨(some 6), (.box 29 (.t 5)), none, []⟩, ⟨(some 7), (.call (.c (.fn 67 [])) [(.t 6)]), none, []⟩, ⟨none, (.store none 4 (.t 0) (.t 7)), none, []⟩]) .ret))⟩
theorem irOk85 : compFun Tryz.prog.underlying Tryz.prog.info? sq Tryz.f85 = some ir85 := by kernel_rfl
def ir86 : BFun := ⟨[(.cell 2 (some 4)), (.tmp 3)], (.seq (.region [⟨(some 1), (.box 29 (.t 0)), none, []⟩, ⟨(some 2), (.new 29 [(.int .i64 0), (.int .i64 0), .nils, .nils]), none, []⟩, ⟨(some 3), (.mov (.c (.int .i64 0))), none, []⟩]) (.seq
  (.seq (.region [⟨(some 4), (.lea 2 (.t 1)), none, []⟩, ⟨(some 5), (.load none none (.t 4)), none, []⟩, ⟨(some 6), (.len 1 (.t 5)), none, []⟩, ⟨(some 7), (.bin .gtr (.t 6) (.c (.int .i64 150))), none, []⟩]) (.cond (.t 7) (.seq (.region
  [⟨(some 8), (.build [(.int .i64 0), (.int .i64 0), .nils, .nils] []), none, []⟩, ⟨none, (.store none 4 (.t 2) (.t 8)), none, []⟩, ⟨(some 3), (.mov (.c (.int .i64 3))), none, []⟩]) .ret) .skip)) (.seq (.region [⟨(some 9), (.load none (some
  4) (.t 1)), none, []⟩, ⟨none, (.store none 4 (.t 2) (.t 9)), none, []⟩, ⟨(some 3), (.mov (.c (.int .i64 0))), none, []⟩]) .ret)))⟩
theorem irOk86 : compFun Tryz.prog.underlying Tryz.prog.info? sq Tryz.f86 = some ir86 := by kernel_rfl
def ir87 : BFun := ⟨[(.cell 4 (some 4))], (.seq (.region [⟨(some 4), (.new 29 [(.int .i64 0), (.int .i64 0), .nils, .nils]), none, []⟩]) (.seq (.region [⟨(some 11), (.mov (.t 0)), none, []⟩, ⟨(some 12), (.nilck (.t 11)), none, []⟩, ⟨(some
  13), (.lea 0 (.t 12)), none, []⟩, ⟨(some 14), (.load none none (.t 13)), none, []⟩, ⟨(some 15), (.bin .add (.t 14) (.c (.int .i64 1))), none, []⟩, ⟨(some 5), (.mov (.t 15)), none, []⟩]) (.seq (.region [⟨(some 16), (.mov (.t 5)), none, []⟩,
  ⟨(some 17), (.mov (.t 0)), none, []⟩, ⟨(some 18), (.nilck (.t 17)), none, []⟩, ⟨(some 19), (.lea 1 (.t 18)), none, []⟩, ⟨(some 20), (.load (some 29) none (.t 19)), none, []⟩, ⟨(some 22), (.mov (.t 0)), none, []⟩, ⟨(some 23), (.nilck (.t
  22)), none, []⟩, ⟨(some 24), (.lea 2 (.t 23)), none, []⟩, ⟨(some 25), (.load none none (.t 24)), none, []⟩, ⟨(some 21), (.mk 4 0 [] []), none, []⟩, ⟨(some 26), (.app 4 1 1 (.t 21) (.t 25)), none, []⟩, ⟨(some 27), (.build [(.int .i64 0),
  (.int .i64 0), .nils, .nils] [(0, (1, (.t 16))), (1, (1, (.t 20))), (2, (1, (.t 26)))]), none, []⟩, ⟨(some 6), (.new 29 [(.int .i64 0), (.int .i64 0), .nils, .nils]), none, []⟩, ⟨none, (.store none 4 (.t 6) (.t 27)), none, []⟩]) (.seq
  (.seq (.region [⟨(some 7), (.mov (.c (.int .i64 0))), none, []⟩]) (.block 0 (.loop (.seq (.seq (.region [⟨(some 28), (.mov (.t 7)), none, []⟩, ⟨(some 29), (.mov (.t 0)), none, []⟩, ⟨(some 30), (.nilck (.t 29)), none, []⟩, ⟨(some 31), (.lea
  2 (.t 30)), none, []⟩, ⟨(some 32), (.load none none (.t 31)), none, []⟩, ⟨(some 33), (.len 1 (.t 32)), none, []⟩, ⟨(some 34), (.bin .lss (.t 28) (.t 33)), none, []⟩]) (.cond (.t 34) .skip (.exit 0))) (.seq (.block 1 (.seq (.region [⟨(some
  37), (.mk 2 0 [] []), none, []⟩, ⟨(some 8), (.mov (.t 37)), none, []⟩]) (.seq (.seq (.region [⟨(some 9), (.mov (.c (.int .i64 0))), none, []⟩]) (.block 2 (.loop (.seq (.seq (.region [⟨(some 38), (.mov (.t 9)), none, []⟩, ⟨(some 39), (.mov
  (.t 5)), none, []⟩, ⟨(some 40), (.call (.c (.fn 135 [])) [(.t 39)]), none, []⟩, ⟨(some 41), (.bin .lss (.t 38) (.t 40)), none, []⟩]) (.cond (.t 41) .skip (.exit 2))) (.seq (.block 3 (.seq (.region [⟨(some 44), (.mov (.t 9)), none, []⟩,
  ⟨(some 45), (.mov (.t 5)), none, []⟩, ⟨(some 46), (.mov (.t 1)), none, []⟩, ⟨(some 47), (.call (.c (.fn 138 [])) [(.t 44), (.t 45), (.t 46)]), none, []⟩, ⟨(some 10), (.mov (.t 47)), none, []⟩]) (.seq (.region [⟨(some 48), (.mov (.t 10)),
  none, []⟩, ⟨(some 49), (.mov (.t 0)), none, []⟩, ⟨(some 50), (.nilck (.t 49)), none, []⟩, ⟨(some 51), (.lea 0 (.t 50)), none, []⟩, ⟨(some 52), (.load none none (.t 51)), none, []⟩, ⟨(some 53), (.call (.c (.fn 135 [])) [(.t 52)]), none,
  []⟩, ⟨(some 54), (.bin .eql (.t 48) (.t 53)), none, []⟩]) (.cond (.t 54) (.region [⟨(some 55), (.mov (.t 8)), none, []⟩, ⟨(some 56), (.mov (.t 7)), none, []⟩, ⟨(some 57), (.mk 2 1 [(.int .i64 0)] [(0, (1, (.t 56)))]), none, []⟩, ⟨(some
  58), (.app 2 1 8 (.t 55) (.t 57)), none, []⟩, ⟨(some 8), (.mov (.t 58)), none, []⟩]) (.region [⟨(some 59), (.mov (.t 8)), none, []⟩, ⟨(some 60), (.mov (.t 0)), none, []⟩, ⟨(some 61), (.nilck (.t 60)), none, []⟩, ⟨(some 62), (.lea 3 (.t
  61)), none, []⟩, ⟨(some 63), (.load none none (.t 62)), none, []⟩, ⟨(some 64), (.mov (.t 7)), none, []⟩, ⟨(some 65), (.idx 1 (.t 63) (.t 64)), none, []⟩, ⟨(some 66), (.load none none (.t 65)), none, []⟩, ⟨(some 67), (.mov (.t 10)), none,
  []⟩, ⟨(some 68), (.idx 1 (.t 66) (.t 67)), none, []⟩, ⟨(some 69), (.load none none (.t 68)), none, []⟩, ⟨(some 70), (.mk 2 1 [(.int .i64 0)] [(0, (1, (.t 69)))]), none, []⟩, ⟨(some 71), (.app 2 1 8 (.t 59) (.t 70)), none, []⟩, ⟨(some 8),
  (.mov (.t 71)), none, []⟩]))))) (.region [⟨(some 42), (.mov (.t 9)), none, []⟩, ⟨(some 43), (.bin .add (.t 42) (.c (.int .i64 1))), none, []⟩, ⟨(some 9), (.mov (.t 43)), none, []⟩])))))) (.region [⟨(some 72), (.lea 3 (.t 6)), none, []⟩,
  ⟨(some 73), (.load none none (.t 72)), none, []⟩, ⟨(some 74), (.mov (.t 8)), none, []⟩, ⟨(some 75), (.mk 67 1 [.nils] [(0, (1, (.t 74)))]), none, []⟩, ⟨(some 76), (.app 67 1 24 (.t 73) (.t 75)), none, []⟩, ⟨(some 77), (.lea 3 (.t 6)),
  none, []⟩, ⟨none, (.store none 1 (.t 77) (.t 76)), none, []⟩])))) (.region [⟨(some 35), (.mov (.t 7)), none, []⟩, ⟨(some 36), (.bin .add (.t 35) (.c (.int .i64 1))), none, []⟩, ⟨(some 7), (.mov (.t 36)), none, []⟩])))))) (.seq (.region
  [⟨(some 78), (.call (.c (.fn 67 [])) [(.t 6)]), none, []⟩, ⟨none, (.store none 4 (.t 4) (.t 78)), none, []⟩]) .ret)))))⟩
theorem irOk87 : compFun Tryz.prog.underlying Tryz.prog.info? sq Tryz.f87 = some ir87 := by kernel_rfl
def ir88 : BFun := ⟨[(.cell 6 (some 4)), (.tmp 7)], (.seq (.region [⟨(some 6), (.new 29 [(.int .i64 0), (.int .i64 0), .nils, .nils]), none, []⟩, ⟨(some 7), (.mov (.c (.int .i64 0))), none, []⟩]) (.seq (.seq (.region [⟨(some 9), (.mov (.t
  0)), none, []⟩, ⟨(some 10), (.mov (.t 1)), none, []⟩, ⟨(some 11), (.call (.c (.fn 136 [])) [(.t 9), (.t 10)]), none, []⟩, ⟨(some 8), (.mov (.t 11)), none, []⟩]) (.seq (.region [⟨(some 12), (.mov (.t 8)), none, []⟩, ⟨(some 13), (.bin .neq
  (.t 12) (.c (.int .i64 0))), none, []⟩]) (.cond (.t 13) (.seq (.region [⟨(some 14), (.build [(.int .i64 0), (.int .i64 0), .nils, .nils] []), none, []⟩, ⟨(some 15), (.mov (.t 8)), none, []⟩, ⟨none, (.store none 4 (.t 6) (.t 14)), none,
  []⟩, ⟨(some 7), (.mov (.t 15)), none, []⟩]) .ret) .skip))) (.seq (.region [⟨(some 16), (.mov (.t 0)), none, []⟩, ⟨(some 17), (.mov (.t 1)), none, []⟩, ⟨(some 18), (.mov (.t 2)), none, []⟩, ⟨(some 19), (.call (.c (.fn 139 [])) [(.t 16), (.t
  17), (.t 18)]), none, []⟩, ⟨(some 20), (.ext 0 (.t 19)), none, []⟩, ⟨(some 21), (.ext 1 (.t 19)), none, []⟩, ⟨none, (.store none 4 (.t 6) (.t 20)), none, []⟩, ⟨(some 7), (.mov (.t 21)), none, []⟩]) .ret)))⟩
theorem irOk88 : compFun Tryz.prog.underlying Tryz.prog.info? sq Tryz.f88 = some ir88 := by kernel_rfl
def ir91 : BFun := ⟨[(.cell 4 (some 4)), (.tmp 5)], (.seq (.region [⟨(some 2), (.box 29 (.t 0)), none, []⟩, ⟨(some 3), (.box 2 (.t 1)), none, []⟩, ⟨(some 4), (.new 29 [(.int .i64 0), (.int .i64 0), .nils, .nils]), none, []⟩, ⟨(some 5), (.mov
  (.c (.int .i64 0))), none, []⟩]) (.seq (.block 0 (.seq (.region [⟨(some 7), (.load none (some 4) (.t 2)), none, []⟩, ⟨(some 8), (.call (.c (.fn 73 [])) [(.t 7)]), none, []⟩, ⟨(some 9), (.not (.t 8)), none, []⟩, ⟨(some 6), (.mov (.t 9)),
  none, []⟩]) (.cond (.t 6) (.seq (.region [⟨(some 10), (.build [(.int .i64 0), (.int .i64 0), .nils, .nils] []), none, []⟩, ⟨none, (.store none 4 (.t 4) (.t 10)), none, []⟩, ⟨(some 5), (.mov (.c (.int .i64 1))), none, []⟩]) .ret) (.seq
  (.region [⟨(some 12), (.load none none (.t 3)), none, []⟩, ⟨(some 13), (.lea 0 (.t 2)), none, []⟩, ⟨(some 14), (.load none none (.t 13)), none, []⟩, ⟨(some 15), (.call (.c (.fn 58 [])) [(.t 12), (.c (.int .i64 0)), (.t 14)]), none, []⟩,
  ⟨(some 16), (.not (.t 15)), none, []⟩, ⟨(some 17), (.mov (.t 16)), none, []⟩, ⟨(some 18), (.lea 0 (.t 2)), (some (17, false)), []⟩, ⟨(some 19), (.load none none (.t 18)), (some (17, false)), []⟩, ⟨(some 20), (.bin .eql (.t 19) (.c (.int
  .i64 3))), (some (17, false)), []⟩, ⟨(some 21), (.pick (.t 17) (.c (.bool true)) (.t 20)), none, []⟩, ⟨(some 11), (.mov (.t 21)), none, []⟩]) (.cond (.t 11) (.seq (.region [⟨(some 22), (.build [(.int .i64 0), (.int .i64 0), .nils, .nils]
  []), none, []⟩, ⟨none, (.store none 4 (.t 4) (.t 22)), none, []⟩, ⟨(some 5), (.mov (.c (.int .i64 2))), none, []⟩]) .ret) .skip))))) (.seq (.region [⟨(some 23), (.load none (some 4) (.t 2)), none, []⟩, ⟨(some 25), (.lea 0 (.t 2)), none,
  []⟩, ⟨(some 26), (.load (some 29) none (.t 25)), none, []⟩, ⟨(some 27), (.bin .add (.t 26) (.c (.int .i64 1))), none, []⟩, ⟨(some 28), (.mkfn 145 [(.t 3)]), none, []⟩, ⟨(some 24), (.call (.c (.fn 75 [])) [(.t 23)]), none, [29]⟩, ⟨(some
  29), (.call (.c (.fn 144 [])) [(.t 24), (.t 27), (.t 28)]), none, []⟩, ⟨(some 30), (.call (.c (.fn 95 [])) [(.t 29)]), none, []⟩, ⟨(some 31), (.ext 0 (.t 30)), none, []⟩, ⟨(some 32), (.ext 1 (.t 30)), none, []⟩, ⟨none, (.store none 4 (.t
  4) (.t 31)), none, []⟩, ⟨(some 5), (.mov (.t 32)), none, []⟩]) .ret)))⟩
theorem irOk91 : compFun Tryz.prog.underlying Tryz.prog.info? sq Tryz.f91 = some ir91 := by kernel_rfl
def ir92 : BFun := ⟨[(.cell 4 (some 4)), (.tmp 5)], (.seq (.region [⟨(some 2), (.box 29 (.t 0)), none, []⟩, ⟨(some 3), (.box 29 (.t 1)), none, []⟩, ⟨(some 4), (.new 29 [(.int .i64 0), (.int .i64 0), .nils, .nils]), none, []⟩, ⟨(some 5),
  (.mov (.c (.int .i64 0))), none, []⟩]) (.seq (.region [⟨(some 6), (.load none (some 4) (.t 2)), none, []⟩, ⟨(some 7), (.load none (some 4) (.t 3)), none, []⟩, ⟨(some 8), (.call (.c (.fn 147 [])) [(.t 6), (.t 7), (.c (.fn 148 []))]), none,
  []⟩, ⟨(some 9), (.ext 0 (.t 8)), none, []⟩, ⟨(some 10), (.ext 1 (.t 8)), none, []⟩, ⟨none, (.store none 4 (.t 4) (.t 9)), none, []⟩, ⟨(some 5), (.mov (.t 10)), none, []⟩]) .ret))⟩
theorem irOk92 : compFun Tryz.prog.underlying Tryz.prog.info? sq Tryz.f92 = some ir92 := by kernel_rfl
def ir95 : BFun := ⟨[(.cell 2 (some 4)), (.tmp 3)], (.seq (.region [⟨(some 1), (.box 80 (.t 0)), none, []⟩, ⟨(some 2), (.new 29 [(.int .i64 0), (.int .i64 0), .nils, .nils]), none, []⟩, ⟨(some 3), (.mov (.c (.int .i64 0))), none, []⟩]) (.seq
  (.region [⟨(some 4), (.load none (some 4) (.t 1)), none, []⟩, ⟨(some 5), (.call (.c (.fn 127 [])) [(.t 4)]), none, []⟩, ⟨(some 6), (.call (.c (.fn 156 [])) [(.t 5)]), none, []⟩, ⟨(some 7), (.ext 0 (.t 6)), none, []⟩, ⟨(some 8), (.ext 1 (.t
  6)), none, []⟩, ⟨none, (.store none 4 (.t 2) (.t 7)), none, []⟩, ⟨(some 3), (.mov (.t 8)), none, []⟩]) .ret))⟩
theorem irOk95 : compFun Tryz.prog.underlying Tryz.prog.info? sq Tryz.f95 = some ir95 := by kernel_rfl
def ir96 : BFun := ⟨[(.tmp 4)], (.seq (.region [⟨(some 4), (.mov (.c (.int .i64 0))), none, []⟩]) (.seq (.seq (.region [⟨(some 5), (.mov (.c (.int .i64 0))), none, []⟩]) (.block 0 (.loop (.seq (.seq (.region [⟨(some 6), (.mov (.t 5)), none,
  []⟩, ⟨(some 7), (.mov (.t 0)), none, []⟩, ⟨(some 8), (.len 1 (.t 7)), none, []⟩, ⟨(some 9), (.bin .lss (.t 6) (.t 8)), none, []⟩]) (.cond (.t 9) .skip (.exit 0))) (.seq (.block 1 (.seq (.region [⟨(some 12), (.mov (.t 0)), none, []⟩, ⟨(some
  13), (.mov (.t 5)), none, []⟩, ⟨(some 14), (.mov (.t 1)), none, []⟩, ⟨(some 15), (.idx 1 (.t 12) (.t 13)), none, []⟩, ⟨none, (.store none 1 (.t 15) (.t 14)), none, []⟩]) (.region [⟨(some 16), (.mov (.t 1)), none, []⟩, ⟨(some 17), (.bin
  .add (.t 16) (.c (.int .i64 1))), none, []⟩, ⟨(some 1), (.mov (.t 17)), none, []⟩]))) (.region [⟨(some 10), (.mov (.t 5)), none, []⟩, ⟨(some 11), (.bin .add (.t 10) (.c (.int .i64 1))), none, []⟩, ⟨(some 5), (.mov (.t 11)), none,
  []⟩])))))) (.seq (.region [⟨(some 18), (.mov (.t 1)), none, []⟩, ⟨(some 4), (.mov (.t 18)), none, []⟩]) .ret)))⟩
theorem irOk96 : compFun Tryz.prog.underlying Tryz.prog.info? sq Tryz.f96 = some ir96 := by kernel_rfl
def ir97 : BFun := ⟨[(.tmp 4)], (.seq (.region [⟨(some 4), (.mov (.c (.int .i64 0))), none, []⟩]) (.seq (.seq (.region [⟨(some 5), (.mov (.c (.int .i64 0))), none, []⟩]) (.block 0 (.loop (.seq (.seq (.region [⟨(some 6), (.mov (.t 5)), none,
  []⟩, ⟨(some 7), (.mov (.t 0)), none, []⟩, ⟨(some 8), (.len 1 (.t 7)), none, []⟩, ⟨(some 9), (.bin .lss (.t 6) (.t 8)), none, []⟩]) (.cond (.t 9) .skip (.exit 0))) (.seq (.block 1 (.seq (.seq (.region [⟨(some 12), (.mov (.t 0)), none, []⟩,
  ⟨(some 13), (.mov (.t 5)), none, []⟩, ⟨(some 14), (.idx 1 (.t 12) (.t 13)), none, []⟩, ⟨(some 15), (.load none none (.t 14)), none, []⟩, ⟨(some 16), (.mov (.t 1)), none, []⟩, ⟨(some 17), (.bin .neq (.t 15) (.t 16)), none, []⟩]) (.cond (.t
  17) (.seq (.region [⟨(some 4), (.mov (.c (.int .i64 (-1)))), none, []⟩]) .ret) .skip)) (.region [⟨(some 18), (.mov (.t 1)), none, []⟩, ⟨(some 19), (.bin .add (.t 18) (.c (.int .i64 1))), none, []⟩, ⟨(some 1), (.mov (.t 19)), none, []⟩])))
  (.region [⟨(some 10), (.mov (.t 5)), none, []⟩, ⟨(some 11), (.bin .add (.t 10) (.c (.int .i64 1))), none, []⟩, ⟨(some 5), (.mov (.t 11)), none, []⟩])))))) (.seq (.region [⟨(some 20), (.mov (.t 1)), none, []⟩, ⟨(some 4), (.mov (.t 20)),
  none, []⟩]) .ret)))⟩
theorem irOk97 : compFun Tryz.prog.underlying Tryz.prog.info? sq Tryz.f97 = some ir97 := by kernel_rfl
def ir106 : BFun := ⟨[(.cell 6 (some 4)), (.tmp 7)], (.seq (.region [⟨(some 6), (.new 29 [(.int .i64 0), (.int .i64 0), .nils, .nils]), none, []⟩, ⟨(some 7), (.mov (.c (.int .i64 0))), none, []⟩]) (.seq (.region [⟨(some 19), (.mov (.t 1)),
  none, []⟩, ⟨(some 20), (.len 1 (.t 19)), none, []⟩, ⟨(some 8), (.mov (.t 20)), none, []⟩]) (.seq (.region [⟨(some 21), (.mov (.t 8)), none, []⟩, ⟨(some 22), (.build [(.int .i64 0), (.int .i64 0), .nils, .nils] [(0, (1, (.t 21)))]), none,
  []⟩, ⟨(some 9), (.new 29 [(.int .i64 0), (.int .i64 0), .nils, .nils]), none, []⟩, ⟨none, (.store none 4 (.t 9) (.t 22)), none, []⟩]) (.seq (.region [⟨(some 23), (.mov (.t 2)), none, []⟩, ⟨(some 24), (.mk 2 1 [(.int .i64 0)] [(0, (1, (.t
  23)))]), none, []⟩, ⟨(some 10), (.mov (.t 24)), none, []⟩]) (.seq (.region [⟨(some 11), (.mov (.c (.int .i64 (-1)))), none, []⟩]) (.seq (.seq (.region [⟨(some 12), (.mov (.c (.int .i64 0))), none, []⟩]) (.block 0 (.loop (.seq (.seq
  (.region [⟨(some 25), (.mov (.t 12)), none, []⟩, ⟨(some 26), (.mov (.t 10)), none, []⟩, ⟨(some 27), (.len 1 (.t 26)), none, []⟩, ⟨(some 28), (.bin .lss (.t 25) (.t 27)), none, []⟩]) (.cond (.t 28) .skip (.exit 0))) (.seq (.block 1 (.seq
  (.region [⟨(some 31), (.mk 2 0 [] []), none, []⟩, ⟨(some 13), (.mov (.t 31)), none, []⟩]) (.seq (.seq (.region [⟨(some 14), (.mov (.c (.int .i64 0))), none, []⟩]) (.block 2 (.loop (.seq (.seq (.region [⟨(some 32), (.mov (.t 14)), none,
  []⟩, ⟨(some 33), (.mov (.t 8)), none, []⟩, ⟨(some 34), (.call (.c (.fn 135 [])) [(.t 33)]), none, []⟩, ⟨(some 35), (.bin .lss (.t 32) (.t 34)), none, []⟩]) (.cond (.t 35) .skip (.exit 2))) (.seq (.block 3 (.seq (.region [⟨(some 38), (.mov
  (.t 10)), none, []⟩, ⟨(some 39), (.mov (.t 12)), none, []⟩, ⟨(some 40), (.idx 1 (.t 38) (.t 39)), none, []⟩, ⟨(some 41), (.load (some 2) none (.t 40)), none, []⟩, ⟨(some 42), (.mov (.t 1)), none, []⟩, ⟨(some 43), (.mov (.t 14)), none, []⟩,
  ⟨(some 44), (.call (.c (.fn 162 [])) [(.t 42), (.t 43)]), none, [2]⟩, ⟨(some 45), (.bin .sub (.t 41) (.t 44)), none, []⟩, ⟨(some 15), (.mov (.t 45)), none, []⟩]) (.seq (.seq (.region [⟨(some 46), (.mov (.t 12)), none, []⟩, ⟨(some 47),
  (.mov (.t 11)), none, []⟩, ⟨(some 48), (.bin .eql (.t 46) (.t 47)), none, []⟩, ⟨(some 49), (.mov (.t 48)), none, []⟩, ⟨(some 50), (.mov (.t 0)), (some (49, false)), []⟩, ⟨(some 51), (.bin .eql (.t 50) (.c (.int .i64 1))), (some (49,
  false)), []⟩, ⟨(some 52), (.mov (.t 51)), (some (49, false)), []⟩, ⟨(some 53), (.mov (.t 15)), (some (52, true)), []⟩, ⟨(some 54), (.bin .rem (.t 53) (.c (.int .i64 2))), (some (52, true)), []⟩, ⟨(some 55), (.bin .neq (.t 54) (.c (.int
  .i64 0))), (some (52, true)), []⟩, ⟨(some 56), (.pick (.t 52) (.t 55) (.c (.bool false))), (some (49, false)), []⟩, ⟨(some 57), (.pick (.t 49) (.c (.bool true)) (.t 56)), none, []⟩]) (.cond (.t 57) (.seq (.seq (.region [⟨(some 58), (.mov
  (.t 11)), none, []⟩, ⟨(some 59), (.bin .lss (.t 58) (.c (.int .i64 0))), none, []⟩]) (.cond (.t 59) (.seq (.region [⟨(some 60), (.mov (.t 10)), none, []⟩, ⟨(some 61), (.len 1 (.t 60)), none, []⟩, ⟨(some 11), (.mov (.t 61)), none, []⟩])
  (.region [⟨(some 62), (.mov (.t 10)), none, []⟩, ⟨(some 63), (.mk 2 1 [(.int .i64 0)] [(0, (1, (.c (.int .i64 0))))]), none, []⟩, ⟨(some 64), (.app 2 1 8 (.t 62) (.t 63)), none, []⟩, ⟨(some 10), (.mov (.t 64)), none, []⟩])) .skip)) (.seq
  (.region [⟨(some 65), (.mov (.t 13)), none, []⟩, ⟨(some 66), (.mov (.t 11)), none, []⟩, ⟨(some 67), (.mk 2 1 [(.int .i64 0)] [(0, (1, (.t 66)))]), none, []⟩, ⟨(some 68), (.app 2 1 8 (.t 65) (.t 67)), none, []⟩, ⟨(some 13), (.mov (.t 68)),
  none, []⟩]) (.exit 3))) .skip)) (.seq (.region [⟨(some 69), (.mov (.t 15)), none, []⟩, ⟨(some 70), (.mov (.t 15)), none, []⟩, ⟨(some 71), (.bin .rem (.t 70) (.c (.int .i64 2))), none, []⟩, ⟨(some 72), (.bin .add (.t 71) (.c (.int .i64
  2))), none, []⟩, ⟨(some 73), (.bin .rem (.t 72) (.c (.int .i64 2))), none, []⟩, ⟨(some 74), (.bin .sub (.t 69) (.t 73)), none, []⟩, ⟨(some 75), (.bin .quo (.t 74) (.c (.int .i64 2))), none, []⟩, ⟨(some 16), (.mov (.t 75)), none, []⟩])
  (.seq (.region [⟨(some 17), (.mov (.c (.int .i64 (-1)))), none, []⟩]) (.seq (.seq (.region [⟨(some 18), (.mov (.c (.int .i64 0))), none, []⟩]) (.block 4 (.loop (.seq (.seq (.region [⟨(some 76), (.mov (.t 18)), none, []⟩, ⟨(some 77), (.mov
  (.t 10)), none, []⟩, ⟨(some 78), (.len 1 (.t 77)), none, []⟩, ⟨(some 79), (.bin .lss (.t 76) (.t 78)), none, []⟩]) (.cond (.t 79) .skip (.exit 4))) (.seq (.block 5 (.seq (.region [⟨(some 82), (.mov (.t 18)), none, []⟩, ⟨(some 83), (.mov
  (.t 11)), none, []⟩, ⟨(some 84), (.bin .neq (.t 82) (.t 83)), none, []⟩, ⟨(some 85), (.mov (.t 84)), none, []⟩, ⟨(some 86), (.mov (.t 10)), (some (85, true)), []⟩, ⟨(some 87), (.mov (.t 18)), (some (85, true)), []⟩, ⟨(some 88), (.idx 1 (.t
  86) (.t 87)), (some (85, true)), []⟩, ⟨(some 89), (.load none none (.t 88)), (some (85, true)), []⟩, ⟨(some 90), (.mov (.t 16)), (some (85, true)), []⟩, ⟨(some 91), (.bin .eql (.t 89) (.t 90)), (some (85, true)), []⟩, ⟨(some 92), (.pick
  (.t 85) (.t 91) (.c (.bool false))), none, []⟩]) (.cond (.t 92) (.region [⟨(some 93), (.mov (.t 18)), none, []⟩, ⟨(some 17), (.mov (.t 93)), none, []⟩]) .skip))) (.region [⟨(some 80), (.mov (.t 18)), none, []⟩, ⟨(some 81), (.bin .add (.t
  80) (.c (.int .i64 1))), none, []⟩, ⟨(some 18), (.mov (.t 81)), none, []⟩])))))) (.seq (.seq (.region [⟨(some 94), (.mov (.t 17)), none, []⟩, ⟨(some 95), (.bin .lss (.t 94) (.c (.int .i64 0))), none, []⟩]) (.cond (.t 95) (.seq (.region
  [⟨(some 96), (.mov (.t 10)), none, []⟩, ⟨(some 97), (.len 1 (.t 96)), none, []⟩, ⟨(some 17), (.mov (.t 97)), none, []⟩]) (.region [⟨(some 98), (.mov (.t 10)), none, []⟩, ⟨(some 99), (.mov (.t 16)), none, []⟩, ⟨(some 100), (.mk 2 1 [(.int
  .i64 0)] [(0, (1, (.t 99)))]), none, []⟩, ⟨(some 101), (.app 2 1 8 (.t 98) (.t 100)), none, []⟩, ⟨(some 10), (.mov (.t 101)), none, []⟩])) .skip)) (.region [⟨(some 102), (.mov (.t 13)), none, []⟩, ⟨(some 103), (.mov (.t 17)), none, []⟩,
  ⟨(some 104), (.mk 2 1 [(.int .i64 0)] [(0, (1, (.t 103)))]), none, []⟩, ⟨(some 105), (.app 2 1 8 (.t 102) (.t 104)), none, []⟩, ⟨(some 13), (.mov (.t 105)), none, []⟩])))))))) (.region [⟨(some 36), (.mov (.t 14)), none, []⟩, ⟨(some 37),
  (.bin .add (.t 36) (.c (.int .i64 1))), none, []⟩, ⟨(some 14), (.mov (.t 37)), none, []⟩])))))) (.seq (.seq (.region [⟨(some 106), (.mov (.t 10)), none, []⟩, ⟨(some 107), (.len 1 (.t 106)), none, []⟩, ⟨(some 108), (.bin .gtr (.t 107) (.c
  (.int .i64 1000))), none, []⟩]) (.cond (.t 108) (.seq (.region [⟨(some 109), (.build [(.int .i64 0), (.int .i64 0), .nils, .nils] []), none, []⟩, ⟨none, (.store none 4 (.t 6) (.t 109)), none, []⟩, ⟨(some 7), (.mov (.c (.int .i64 3))),
  none, []⟩]) .ret) .skip)) (.seq (.region [⟨(some 110), (.lea 2 (.t 9)), none, []⟩, ⟨(some 111), (.load none none (.t 110)), none, []⟩, ⟨(some 112), (.mov (.t 12)), none, []⟩, ⟨(some 113), (.mov (.t 11)), none, []⟩, ⟨(some 114), (.bin .neq
  (.t 112) (.t 113)), none, []⟩, ⟨(some 115), (.mov (.t 114)), none, []⟩, ⟨(some 116), (.mov (.t 10)), (some (115, true)), []⟩, ⟨(some 117), (.mov (.t 12)), (some (115, true)), []⟩, ⟨(some 118), (.idx 1 (.t 116) (.t 117)), (some (115,
  true)), []⟩, ⟨(some 119), (.load none none (.t 118)), (some (115, true)), []⟩, ⟨(some 120), (.bin .eql (.t 119) (.c (.int .i64 0))), (some (115, true)), []⟩, ⟨(some 121), (.mov (.t 120)), (some (115, true)), []⟩, ⟨(some 122), (.mov (.t
  0)), (some (121, false)), []⟩, ⟨(some 123), (.bin .eql (.t 122) (.c (.int .i64 2))), (some (121, false)), []⟩, ⟨(some 124), (.mov (.t 123)), (some (121, false)), []⟩, ⟨(some 125), (.mov (.t 10)), (some (124, true)), []⟩, ⟨(some 126), (.mov
  (.t 12)), (some (124, true)), []⟩, ⟨(some 127), (.idx 1 (.t 125) (.t 126)), (some (124, true)), []⟩, ⟨(some 128), (.load none none (.t 127)), (some (124, true)), []⟩, ⟨(some 129), (.bin .gtr (.t 128) (.c (.int .i64 0))), (some (124,
  true)), []⟩, ⟨(some 130), (.pick (.t 124) (.t 129) (.c (.bool false))), (some (121, false)), []⟩, ⟨(some 131), (.pick (.t 121) (.c (.bool true)) (.t 130)), (some (115, true)), []⟩, ⟨(some 132), (.pick (.t 115) (.t 131) (.c (.bool false))),
  none, []⟩, ⟨(some 133), (.mk 4 1 [(.bool false)] [(0, (1, (.t 132)))]), none, []⟩, ⟨(some 134), (.app 4 1 1 (.t 111) (.t 133)), none, []⟩, ⟨(some 135), (.lea 2 (.t 9)), none, []⟩, ⟨none, (.store none 1 (.t 135) (.t 134)), none, []⟩])
  (.region [⟨(some 136), (.lea 3 (.t 9)), none, []⟩, ⟨(some 137), (.load none none (.t 136)), none, []⟩, ⟨(some 138), (.mov (.t 13)), none, []⟩, ⟨(some 139), (.mk 67 1 [.nils] [(0, (1, (.t 138)))]), none, []⟩, ⟨(some 140), (.app 67 1 24 (.t
  137) (.t 139)), none, []⟩, ⟨(some 141), (.lea 3 (.t 9)), none, []⟩, ⟨none, (.store none 1 (.t 141) (.t 140)), none, []⟩])))))) (.region [⟨(some 29), (.mov (.t 12)), none, []⟩, ⟨(some 30), (.bin .add (.t 29) (.c (.int .i64 1))), none, []⟩,
  ⟨(some 12), (.mov (.t 30)), none, []⟩])))))) (.seq (.region [⟨(some 142), (.load none (some 4) (.t 9)), none, []⟩, ⟨none, (.store none 4 (.t 6) (.t 142)), none, []⟩, ⟨(some 7), (.mov (.c (.int .i64 0))), none, []⟩]) .ret)))))))⟩
theorem irOk106 : compFun Tryz.prog.underlying Tryz.prog.info? sq Tryz.f106 = some ir106 := by kernel_rfl
def ir107 : BFun := ⟨[(.cell 4 (some 4)), (.tmp 5)], (.seq (.region [⟨(some 4), (.new 29 [(.int .i64 0), (.int .i64 0), .nils, .nils]), none, []⟩, ⟨(some 5), (.mov (.c (.int .i64 0))), none, []⟩]) (.seq (.region [⟨(some 10), (.mov (.t 0)),
  none, []⟩, ⟨(some 11), (.nilck (.t 10)), none, []⟩, ⟨(some 12), (.lea 0 (.t 11)), none, []⟩, ⟨(some 13), (.load none (some 4) (.t 12)), none, []⟩, ⟨(some 14), (.call (.c (.fn 163 [])) [(.t 13)]), none, []⟩, ⟨(some 9), (.mov (.t 14)), none,
  []⟩, ⟨(some 15), (.ext 0 (.t 9)), none, []⟩, ⟨(some 16), (.ext 1 (.t 9)), none, []⟩, ⟨(some 6), (.new 29 [(.int .i64 0), (.int .i64 0), .nils, .nils]), none, []⟩, ⟨none, (.store none 4 (.t 6) (.t 15)), none, []⟩, ⟨(some 7), (.mov (.t 16)),
  none, []⟩]) (.seq (.seq (.region [⟨(some 8), (.mov (.c (.int .i64 1))), none, []⟩]) (.block 0 (.loop (.seq (.seq (.region [⟨(some 17), (.mov (.t 8)), none, []⟩, ⟨(some 18), (.mov (.t 1)), none, []⟩, ⟨(some 19), (.bin .lss (.t 17) (.t 18)),
  none, []⟩, ⟨(some 20), (.mov (.t 19)), none, []⟩, ⟨(some 21), (.mov (.t 7)), (some (20, true)), []⟩, ⟨(some 22), (.bin .eql (.t 21) (.c (.int .i64 0))), (some (20, true)), []⟩, ⟨(some 23), (.pick (.t 20) (.t 22) (.c (.bool false))), none,
  []⟩]) (.cond (.t 23) .skip (.exit 0))) (.seq (.block 1 (.region [⟨(some 27), (.mov (.t 0)), none, []⟩, ⟨(some 28), (.nilck (.t 27)), none, []⟩, ⟨(some 29), (.lea 0 (.t 28)), none, []⟩, ⟨(some 30), (.load none (some 4) (.t 29)), none, []⟩,
  ⟨(some 31), (.load none (some 4) (.t 6)), none, []⟩, ⟨(some 32), (.call (.c (.fn 164 [])) [(.t 30), (.t 31)]), none, []⟩, ⟨(some 26), (.mov (.t 32)), none, []⟩, ⟨(some 33), (.ext 0 (.t 26)), none, []⟩, ⟨(some 34), (.ext 1 (.t 26)), none,
  []⟩, ⟨none, (.store none 4 (.t 6) (.t 33)), none, []⟩, ⟨(some 7), (.mov (.t 34)), none, []⟩])) (.region [⟨(some 24), (.mov (.t 8)), none, []⟩, ⟨(some 25), (.bin .add (.t 24) (.c (.int .i64 1))), none, []⟩, ⟨(some 8), (.mov (.t 25)), none,
  []⟩])))))) (.seq (.region [⟨(some 35), (.load none (some 4) (.t 6)), none, []⟩, ⟨(some 36), (.mov (.t 7)), none, []⟩, ⟨none, (.store none 4 (.t 4) (.t 35)), none, []⟩, ⟨(some 5), (.mov (.t 36)), none, []⟩]) .ret))))⟩
theorem irOk107 : compFun Tryz.prog.underlying Tryz.prog.info? sq Tryz.f107 = some ir107 := by kernel_rfl
def ir110 : BFun := ⟨[(.tmp 2)], (.seq (.region [⟨(some 2), (.mov (.c (.int .i64 0))), none, []⟩]) (.seq (.region [⟨(some 3), (.mov (.t 0)), none, []⟩, ⟨(some 4), (.call (.c (.fn 167 [])) [(.t 3)]), none, []⟩, ⟨(some 5), (.bin .sub (.t 4)
  (.c (.int .i64 1))), none, []⟩, ⟨(some 2), (.mov (.t 5)), none, []⟩]) .ret))⟩
theorem irOk110 : compFun Tryz.prog.underlying Tryz.prog.info? sq Tryz.f110 = some ir110 := by kernel_rfl
def ir111 : BFun := ⟨[(.tmp 4)], (.seq (.region [⟨(some 4), (.mov (.c .nils)), none, []⟩]) (.seq (.region [⟨(some 5), (.mov (.c .nils)), none, []⟩]) (.seq (.block 0 (.loop (.seq (.seq (.region [⟨(some 6), (.mov (.t 0)), none, []⟩, ⟨(some 7),
  (.bin .gtr (.t 6) (.c (.int .i64 0))), none, []⟩]) (.cond (.t 7) .skip (.exit 0))) (.seq (.block 1 (.seq (.region [⟨(some 10), (.mov (.t 5)), none, []⟩, ⟨(some 11), (.mov (.t 1)), none, []⟩, ⟨(some 12), (.bin .rem (.t 11) (.c (.int .i64
  3))), none, []⟩, ⟨(some 13), (.mk 3 1 [(.int .i64 0)] [(0, (1, (.t 12)))]), none, []⟩, ⟨(some 14), (.app 3 1 8 (.t 10) (.t 13)), none, []⟩, ⟨(some 5), (.mov (.t 14)), none, []⟩]) (.region [⟨(some 15), (.mov (.t 1)), none, []⟩, ⟨(some 16),
  (.bin .quo (.t 15) (.c (.int .i64 3))), none, []⟩, ⟨(some 1), (.mov (.t 16)), none, []⟩]))) (.region [⟨(some 8), (.mov (.t 0)), none, []⟩, ⟨(some 9), (.bin .sub (.t 8) (.c (.int .i64 1))), none, []⟩, ⟨(some 0), (.mov (.t 9)), none,
  []⟩]))))) (.seq (.region [⟨(some 17), (.mov (.t 5)), none, []⟩, ⟨(some 4), (.mov (.t 17)), none, []⟩]) .ret))))⟩
theorem irOk111 : compFun Tryz.prog.underlying Tryz.prog.info? sq Tryz.f111 = some ir111 := by kernel_rfl
def ir112 : BFun := ⟨[(.cell 10 (some 4)), (.tmp 11)], (.seq (.region [⟨(some 10), (.new 80 [(.int .i64 0), (.int .i64 0), .nils, .nils]), none, []⟩, ⟨(some 11), (.mov (.c (.bool false))), none, []⟩]) (.seq (.region [⟨(some 22), (.mov (.t
  0)), none, []⟩, ⟨(some 23), (.build [(.int .i64 0), (.int .i64 0), .nils, .nils] [(0, (1, (.t 22)))]), none, []⟩, ⟨(some 12), (.new 80 [(.int .i64 0), (.int .i64 0), .nils, .nils]), none, []⟩, ⟨none, (.store none 4 (.t 12) (.t 23)), none,
  []⟩]) (.seq (.region [⟨(some 24), .mkmap, none, []⟩, ⟨(some 25), (.mov (.t 1)), none, []⟩, ⟨none, (.mset 0 (.t 24) (.t 25) (.c (.int .i64 0))), none, []⟩, ⟨(some 26), (.mov (.t 24)), none, []⟩, ⟨(some 13), (.mov (.t 26)), none, []⟩]) (.seq
  (.region [⟨(some 27), (.mov (.t 1)), none, []⟩, ⟨(some 28), (.mk 2 1 [(.int .i64 0)] [(0, (1, (.t 27)))]), none, []⟩, ⟨(some 14), (.mov (.t 28)), none, []⟩]) (.seq (.seq (.region [⟨(some 15), (.mov (.c (.int .i64 0))), none, []⟩]) (.block
  0 (.loop (.seq (.seq (.region [⟨(some 29), (.mov (.t 15)), none, []⟩, ⟨(some 30), (.mov (.t 14)), none, []⟩, ⟨(some 31), (.len 1 (.t 30)), none, []⟩, ⟨(some 32), (.bin .lss (.t 29) (.t 31)), none, []⟩]) (.cond (.t 32) .skip (.exit 0)))
  (.seq (.block 1 (.seq (.region [⟨(some 35), (.mov (.t 14)), none, []⟩, ⟨(some 36), (.mov (.t 15)), none, []⟩, ⟨(some 37), (.idx 1 (.t 35) (.t 36)), none, []⟩, ⟨(some 38), (.load none none (.t 37)), none, []⟩, ⟨(some 16), (.mov (.t 38)),
  none, []⟩]) (.seq (.region [⟨(some 17), (.mov (.c .nils)), none, []⟩]) (.seq (.seq (.region [⟨(some 18), (.mov (.c (.int .i64 0))), none, []⟩]) (.block 2 (.loop (.seq (.seq (.region [⟨(some 39), (.mov (.t 18)), none, []⟩, ⟨(some 40), (.mov
  (.t 0)), none, []⟩, ⟨(some 41), (.call (.c (.fn 110 [])) [(.t 40)]), none, []⟩, ⟨(some 42), (.bin .lss (.t 39) (.t 41)), none, []⟩]) (.cond (.t 42) .skip (.exit 2))) (.seq (.block 3 (.seq (.region [⟨(some 45), (.mov (.t 4)), none, []⟩,
  ⟨(some 46), (.mov (.t 16)), none, []⟩, ⟨(some 47), (.mov (.t 18)), none, []⟩, ⟨(some 48), (.call (.t 45) [(.t 46), (.t 47)]), none, []⟩, ⟨(some 19), (.mov (.t 48)), none, []⟩]) (.seq (.region [⟨(some 50), (.mov (.t 13)), none, []⟩, ⟨(some
  51), (.mov (.t 19)), none, []⟩, ⟨(some 52), (.look 0 true (.int .i64 0) (.t 50) (.t 51)), none, []⟩, ⟨(some 49), (.mov (.t 52)), none, []⟩, ⟨(some 53), (.ext 0 (.t 49)), none, []⟩, ⟨(some 54), (.ext 1 (.t 49)), none, []⟩, ⟨(some 20), (.mov
  (.t 53)), none, []⟩, ⟨(some 21), (.mov (.t 54)), none, []⟩]) (.seq (.seq (.region [⟨(some 55), (.mov (.t 21)), none, []⟩, ⟨(some 56), (.not (.t 55)), none, []⟩]) (.cond (.t 56) (.seq (.region [⟨(some 57), (.mov (.t 14)), none, []⟩, ⟨(some
  58), (.len 1 (.t 57)), none, []⟩, ⟨(some 20), (.mov (.t 58)), none, []⟩]) (.seq (.region [⟨(some 59), (.mov (.t 13)), none, []⟩, ⟨(some 60), (.mov (.t 19)), none, []⟩, ⟨(some 61), (.mov (.t 20)), none, []⟩, ⟨none, (.mset 0 (.t 59) (.t 60)
  (.t 61)), none, []⟩]) (.seq (.region [⟨(some 62), (.mov (.t 14)), none, []⟩, ⟨(some 63), (.mov (.t 19)), none, []⟩, ⟨(some 64), (.mk 2 1 [(.int .i64 0)] [(0, (1, (.t 63)))]), none, []⟩, ⟨(some 65), (.app 2 1 8 (.t 62) (.t 64)), none, []⟩,
  ⟨(some 14), (.mov (.t 65)), none, []⟩]) (.seq (.region [⟨(some 66), (.mov (.t 2)), none, []⟩, ⟨(some 67), (.bin .gtr (.t 66) (.c (.int .i64 0))), none, []⟩, ⟨(some 68), (.mov (.t 67)), none, []⟩, ⟨(some 69), (.mov (.t 14)), (some (68,
  true)), []⟩, ⟨(some 70), (.len 1 (.t 69)), (some (68, true)), []⟩, ⟨(some 71), (.mov (.t 2)), (some (68, true)), []⟩, ⟨(some 72), (.bin .gtr (.t 70) (.t 71)), (some (68, true)), []⟩, ⟨(some 73), (.pick (.t 68) (.t 72) (.c (.bool false))),
  none, []⟩]) (.cond (.t 73) (.seq (.region [⟨(some 74), (.build [(.int .i64 0), (.int .i64 0), .nils, .nils] []), none, []⟩, ⟨none, (.store none 4 (.t 10) (.t 74)), none, []⟩, ⟨(some 11), (.mov (.c (.bool false))), none, []⟩]) .ret)
  .skip))))) .skip)) (.region [⟨(some 75), (.mov (.t 17)), none, []⟩, ⟨(some 76), (.mov (.t 20)), none, []⟩, ⟨(some 77), (.mk 3 1 [(.int .i64 0)] [(0, (1, (.t 76)))]), none, []⟩, ⟨(some 78), (.app 3 1 8 (.t 75) (.t 77)), none, []⟩, ⟨(some
  17), (.mov (.t 78)), none, []⟩]))))) (.region [⟨(some 43), (.mov (.t 18)), none, []⟩, ⟨(some 44), (.bin .add (.t 43) (.c (.int .i64 1))), none, []⟩, ⟨(some 18), (.mov (.t 44)), none, []⟩])))))) (.seq (.region [⟨(some 79), (.lea 2 (.t 12)),
  none, []⟩, ⟨(some 80), (.load (some 80) none (.t 79)), none, []⟩, ⟨(some 81), (.mov (.t 3)), none, []⟩, ⟨(some 82), (.mov (.t 16)), none, []⟩, ⟨(some 83), (.call (.t 81) [(.t 82)]), none, [80]⟩, ⟨(some 84), (.mk 4 1 [(.bool false)] [(0,
  (1, (.t 83)))]), none, []⟩, ⟨(some 85), (.app 4 1 1 (.t 80) (.t 84)), none, []⟩, ⟨(some 86), (.lea 2 (.t 12)), none, []⟩, ⟨none, (.store none 1 (.t 86) (.t 85)), none, []⟩]) (.region [⟨(some 87), (.lea 3 (.t 12)), none, []⟩, ⟨(some 88),
  (.load none none (.t 87)), none, []⟩, ⟨(some 89), (.mov (.t 17)), none, []⟩, ⟨(some 90), (.mk 84 1 [.nils] [(0, (1, (.t 89)))]), none, []⟩, ⟨(some 91), (.app 84 1 24 (.t 88) (.t 90)), none, []⟩, ⟨(some 92), (.lea 3 (.t 12)), none, []⟩,
  ⟨none, (.store none 1 (.t 92) (.t 91)), none, []⟩])))))) (.region [⟨(some 33), (.mov (.t 15)), none, []⟩, ⟨(some 34), (.bin .add (.t 33) (.c (.int .i64 1))), none, []⟩, ⟨(some 15), (.mov (.t 34)), none, []⟩])))))) (.seq (.region [⟨(some
  93), (.load none (some 4) (.t 12)), none, []⟩, ⟨none, (.store none 4 (.t 10) (.t 93)), none, []⟩, ⟨(some 11), (.mov (.c (.bool true))), none, []⟩]) .ret))))))⟩
theorem irOk112 : compFun Tryz.prog.underlying Tryz.prog.info? sq Tryz.f112 = some ir112 := by kernel_rfl
def ir113 : BFun := ⟨[(.tmp 3)], (.seq (.region [⟨(some 3), (.mov (.c (.bool false))), none, []⟩]) (.seq (.region [⟨(some 4), (.mov (.t 0)), none, []⟩, ⟨(some 5), (.bin .eql (.t 4) (.c (.int .i64 0))), none, []⟩, ⟨(some 6), (.mov (.t 5)),
  none, []⟩, ⟨(some 7), (.mov (.t 0)), (some (6, false)), []⟩, ⟨(some 8), (.bin .gtr (.t 7) (.c (.int .i64 0))), (some (6, false)), []⟩, ⟨(some 9), (.mov (.t 8)), (some (6, false)), []⟩, ⟨(some 10), (.mov (.t 0)), (some (9, true)), []⟩,
  ⟨(some 11), (.bin .neq (.t 10) (.c (.int .i64 1099511627776))), (some (9, true)), []⟩, ⟨(some 12), (.pick (.t 9) (.t 11) (.c (.bool false))), (some (6, false)), []⟩, ⟨(some 13), (.mov (.t 12)), (some (6, false)), []⟩, ⟨(some 14), (.load
  none none (.t 1)), (some (13, true)), []⟩, ⟨(some 15), (.bin .eql (.t 14) (.c (.int .i64 2))), (some (13, true)), []⟩, ⟨(some 16), (.pick (.t 13) (.t 15) (.c (.bool false))), (some (6, false)), []⟩, ⟨(some 17), (.pick (.t 6) (.c (.bool
  true)) (.t 16)), none, []⟩, ⟨(some 3), (.mov (.t 17)), none, []⟩]) .ret))⟩
theorem irOk113 : compFun Tryz.prog.underlying Tryz.prog.info? sq Tryz.f113 = some ir113 := by kernel_rfl
def ir114 : BFun := ⟨[(.tmp 6)], (.seq (.region [⟨(some 6), (.mov (.c (.int .i64 0))), none, []⟩]) (.seq (.seq (.region [⟨(some 8), (.mov (.t 0)), none, []⟩, ⟨(some 9), (.bin .eql (.t 8) (.c (.int .i64 1099511627776))), none, []⟩]) (.cond
  (.t 9) (.seq (.region [⟨(some 6), (.mov (.c (.int .i64 1099511627776))), none, []⟩]) .ret) .skip)) (.seq (.region [⟨(some 10), (.mov (.t 0)), none, []⟩, ⟨(some 11), (.load none none (.t 2)), none, []⟩, ⟨(some 12), (.mov (.t 1)), none, []⟩,
  ⟨(some 13), (.idx 1 (.t 11) (.t 12)), none, []⟩, ⟨(some 14), (.load none none (.t 13)), none, []⟩, ⟨(some 15), (.bin .sub (.t 10) (.t 14)), none, []⟩, ⟨(some 7), (.mov (.t 15)), none, []⟩]) (.seq (.seq (.region [⟨(some 16), (.load none
  none (.t 3)), none, []⟩, ⟨(some 17), (.bin .eql (.t 16) (.c (.int .i64 1))), none, []⟩, ⟨(some 18), (.mov (.t 17)), none, []⟩, ⟨(some 19), (.mov (.t 7)), (some (18, true)), []⟩, ⟨(some 20), (.bin .rem (.t 19) (.c (.int .i64 2))), (some
  (18, true)), []⟩, ⟨(some 21), (.bin .neq (.t 20) (.c (.int .i64 0))), (some (18, true)), []⟩, ⟨(some 22), (.pick (.t 18) (.t 21) (.c (.bool false))), none, []⟩]) (.cond (.t 22) (.seq (.region [⟨(some 6), (.mov (.c (.int .i64
  1099511627776))), none, []⟩]) .ret) .skip)) (.seq (.region [⟨(some 23), (.mov (.t 7)), none, []⟩, ⟨(some 24), (.bin .shr (.t 23) (.c (.int .u64 1))), none, []⟩, ⟨(some 6), (.mov (.t 24)), none, []⟩]) .ret)))))⟩
theorem irOk114 : compFun Tryz.prog.underlying Tryz.prog.info? sq Tryz.f114 = some ir114 := by kernel_rfl
def ir115 : BFun := ⟨[(.cell 2 (some 4)), (.tmp 3)], (.seq (.region [⟨(some 2), (.new 29 [(.int .i64 0), (.int .i64 0), .nils, .nils]), none, []⟩, ⟨(some 3), (.mov (.c (.int .i64 0))), none, []⟩]) (.seq (.region [⟨(some 7), (.mov (.t 0)),
  none, []⟩, ⟨(some 8), (.sslice (.c (.str ⟨#[120, 121, 122]⟩)) none (some (.t 7))), none, []⟩, ⟨(some 4), (.call (.c (.fn 125 [])) []), none, []⟩, ⟨(some 5), (.call (.c (.fn 168 [])) [(.t 4), (.c .nils)]), none, []⟩, ⟨(some 6), (.build
  [(.int .i64 0), (.int .i64 0), .nils, .nils, .nils] [(0, (5, (.t 5)))]), none, []⟩, ⟨(some 9), (.call (.c (.fn 169 [])) [(.t 6), (.t 8)]), none, []⟩, ⟨(some 10), (.ext 0 (.t 9)), none, []⟩, ⟨(some 11), (.ext 1 (.t 9)), none, []⟩, ⟨none,
  (.store none 4 (.t 2) (.t 10)), none, []⟩, ⟨(some 3), (.mov (.t 11)), none, []⟩]) .ret))⟩
theorem irOk115 : compFun Tryz.prog.underlying Tryz.prog.info? sq Tryz.f115 = some ir115 := by kernel_rfl
def ir116 : BFun := ⟨[(.cell 2 (some 4))], (.seq (.region [⟨(some 2), (.new 29 [(.int .i64 0), (.int .i64 0), .nils, .nils]), none, []⟩]) (.seq (.region [⟨(some 20), (.mov (.t 0)), none, []⟩, ⟨(some 21), (.nilck (.t 20)), none, []⟩, ⟨(some
  22), (.lea 2 (.t 21)), none, []⟩, ⟨(some 23), (.load none none (.t 22)), none, []⟩, ⟨(some 24), (.len 1 (.t 23)), none, []⟩, ⟨(some 3), (.mov (.t 24)), none, []⟩]) (.seq (.region [⟨(some 25), (.mov (.t 0)), none, []⟩, ⟨(some 26), (.nilck
  (.t 25)), none, []⟩, ⟨(some 27), (.lea 0 (.t 26)), none, []⟩, ⟨(some 28), (.load none none (.t 27)), none, []⟩, ⟨(some 29), (.conv .u64 (.t 28)), none, []⟩, ⟨(some 30), (.bin .shl (.c (.int .i64 1)) (.t 29)), none, []⟩, ⟨(some 4), (.mov
  (.t 30)), none, []⟩]) (.seq (.region [⟨(some 31), (.mov (.t 3)), none, []⟩, ⟨(some 32), (.mov (.t 4)), none, []⟩, ⟨(some 33), (.bin .mul (.t 31) (.t 32)), none, []⟩, ⟨(some 34), (.mksl 2 8 [(.int .i64 0)] (.t 33) (.t 33)), none, []⟩,
  ⟨(some 5), (.mov (.t 34)), none, []⟩]) (.seq (.seq (.region [⟨(some 6), (.mov (.c (.int .i64 0))), none, []⟩]) (.block 0 (.loop (.seq (.seq (.region [⟨(some 35), (.mov (.t 6)), none, []⟩, ⟨(some 36), (.mov (.t 5)), none, []⟩, ⟨(some 37),
  (.len 1 (.t 36)), none, []⟩, ⟨(some 38), (.bin .lss (.t 35) (.t 37)), none, []⟩]) (.cond (.t 38) .skip (.exit 0))) (.seq (.block 1 (.region [⟨(some 41), (.mov (.t 5)), none, []⟩, ⟨(some 42), (.mov (.t 6)), none, []⟩, ⟨(some 43), (.idx 1
  (.t 41) (.t 42)), none, []⟩, ⟨none, (.store none 1 (.t 43) (.c (.int .i64 (-1)))), none, []⟩])) (.region [⟨(some 39), (.mov (.t 6)), none, []⟩, ⟨(some 40), (.bin .add (.t 39) (.c (.int .i64 1))), none, []⟩, ⟨(some 6), (.mov (.t 40)), none,
  []⟩])))))) (.seq (.region [⟨(some 44), (.mov (.t 0)), none, []⟩, ⟨(some 45), (.nilck (.t 44)), none, []⟩, ⟨(some 46), (.lea 1 (.t 45)), none, []⟩, ⟨(some 47), (.load none none (.t 46)), none, []⟩, ⟨(some 48), (.mov (.t 4)), none, []⟩,
  ⟨(some 49), (.bin .mul (.t 47) (.t 48)), none, []⟩, ⟨(some 50), (.mk 2 1 [(.int .i64 0)] [(0, (1, (.t 49)))]), none, []⟩, ⟨(some 7), (.mov (.t 50)), none, []⟩]) (.seq (.region [⟨(some 51), (.mov (.t 5)), none, []⟩, ⟨(some 52), (.mov (.t
  0)), none, []⟩, ⟨(some 53), (.nilck (.t 52)), none, []⟩, ⟨(some 54), (.lea 1 (.t 53)), none, []⟩, ⟨(some 55), (.load none none (.t 54)), none, []⟩, ⟨(some 56), (.mov (.t 4)), none, []⟩, ⟨(some 57), (.bin .mul (.t 55) (.t 56)), none, []⟩,
  ⟨(some 58), (.idx 1 (.t 51) (.t 57)), none, []⟩, ⟨none, (.store none 1 (.t 58) (.c (.int .i64 0))), none, []⟩]) (.seq (.region [⟨(some 59), (.mov (.t 0)), none, []⟩, ⟨(some 60), (.nilck (.t 59)), none, []⟩, ⟨(some 61), (.lea 0 (.t 60)),
  none, []⟩, ⟨(some 62), (.load none none (.t 61)), none, []⟩, ⟨(some 63), (.build [(.int .i64 0), (.int .i64 0), .nils, .nils] [(0, (1, (.t 62)))]), none, []⟩, ⟨(some 8), (.new 29 [(.int .i64 0), (.int .i64 0), .nils, .nils]), none, []⟩,
  ⟨none, (.store none 4 (.t 8) (.t 63)), none, []⟩]) (.seq (.seq (.region [⟨(some 9), (.mov (.c (.int .i64 0))), none, []⟩]) (.block 2 (.loop (.seq (.seq (.region [⟨(some 64), (.mov (.t 9)), none, []⟩, ⟨(some 65), (.mov (.t 7)), none, []⟩,
  ⟨(some 66), (.len 1 (.t 65)), none, []⟩, ⟨(some 67), (.bin .lss (.t 64) (.t 66)), none, []⟩]) (.cond (.t 67) .skip (.exit 2))) (.seq (.block 3 (.seq (.region [⟨(some 70), (.mov (.t 7)), none, []⟩, ⟨(some 71), (.mov (.t 9)), none, []⟩,
  ⟨(some 72), (.idx 1 (.t 70) (.t 71)), none, []⟩, ⟨(some 73), (.load none none (.t 72)), none, []⟩, ⟨(some 74), (.mov (.t 4)), none, []⟩, ⟨(some 75), (.bin .quo (.t 73) (.t 74)), none, []⟩, ⟨(some 10), (.mov (.t 75)), none, []⟩]) (.seq
  (.region [⟨(some 76), (.mk 2 0 [] []), none, []⟩, ⟨(some 11), (.mov (.t 76)), none, []⟩]) (.seq (.seq (.region [⟨(some 12), (.mov (.c (.int .i64 0))), none, []⟩]) (.block 4 (.loop (.seq (.seq (.region [⟨(some 77), (.mov (.t 12)), none,
  []⟩, ⟨(some 78), (.mov (.t 0)), none, []⟩, ⟨(some 79), (.nilck (.t 78)), none, []⟩, ⟨(some 80), (.lea 0 (.t 79)), none, []⟩, ⟨(some 81), (.load none none (.t 80)), none, []⟩, ⟨(some 82), (.call (.c (.fn 135 [])) [(.t 81)]), none, []⟩,
  ⟨(some 83), (.bin .lss (.t 77) (.t 82)), none, []⟩]) (.cond (.t 83) .skip (.exit 4))) (.seq (.block 5 (.seq (.region [⟨(some 86), (.mov (.t 0)), none, []⟩, ⟨(some 87), (.nilck (.t 86)), none, []⟩, ⟨(some 88), (.lea 0 (.t 87)), none, []⟩,
  ⟨(some 89), (.load none none (.t 88)), none, []⟩, ⟨(some 90), (.mov (.t 7)), none, []⟩, ⟨(some 91), (.mov (.t 9)), none, []⟩, ⟨(some 92), (.idx 1 (.t 90) (.t 91)), none, []⟩, ⟨(some 93), (.load none none (.t 92)), none, []⟩, ⟨(some 94),
  (.mov (.t 4)), none, []⟩, ⟨(some 95), (.bin .rem (.t 93) (.t 94)), none, []⟩, ⟨(some 96), (.mov (.t 12)), none, []⟩, ⟨(some 97), (.call (.c (.fn 170 [])) [(.t 89), (.t 95), (.t 96)]), none, []⟩, ⟨(some 13), (.mov (.t 97)), none, []⟩])
  (.seq (.seq (.region [⟨(some 98), (.mov (.t 13)), none, []⟩, ⟨(some 99), (.bin .lss (.t 98) (.c (.int .i64 0))), none, []⟩]) (.cond (.t 99) (.seq (.region [⟨(some 100), (.mov (.t 11)), none, []⟩, ⟨(some 101), (.mk 2 1 [(.int .i64 0)] [(0,
  (1, (.c (.int .i64 (-1)))))]), none, []⟩, ⟨(some 102), (.app 2 1 8 (.t 100) (.t 101)), none, []⟩, ⟨(some 11), (.mov (.t 102)), none, []⟩]) (.exit 5)) .skip)) (.seq (.region [⟨(some 103), (.mov (.t 0)), none, []⟩, ⟨(some 104), (.nilck (.t
  103)), none, []⟩, ⟨(some 105), (.lea 3 (.t 104)), none, []⟩, ⟨(some 106), (.load none none (.t 105)), none, []⟩, ⟨(some 107), (.mov (.t 10)), none, []⟩, ⟨(some 108), (.idx 1 (.t 106) (.t 107)), none, []⟩, ⟨(some 109), (.load none none (.t
  108)), none, []⟩, ⟨(some 110), (.mov (.t 12)), none, []⟩, ⟨(some 111), (.idx 1 (.t 109) (.t 110)), none, []⟩, ⟨(some 112), (.load none none (.t 111)), none, []⟩, ⟨(some 113), (.mov (.t 4)), none, []⟩, ⟨(some 114), (.bin .mul (.t 112) (.t
  113)), none, []⟩, ⟨(some 115), (.mov (.t 13)), none, []⟩, ⟨(some 116), (.bin .add (.t 114) (.t 115)), none, []⟩, ⟨(some 14), (.mov (.t 116)), none, []⟩]) (.seq (.seq (.region [⟨(some 117), (.mov (.t 5)), none, []⟩, ⟨(some 118), (.mov (.t
  14)), none, []⟩, ⟨(some 119), (.idx 1 (.t 117) (.t 118)), none, []⟩, ⟨(some 120), (.load none none (.t 119)), none, []⟩, ⟨(some 121), (.bin .lss (.t 120) (.c (.int .i64 0))), none, []⟩]) (.cond (.t 121) (.seq (.region [⟨(some 122), (.mov
  (.t 5)), none, []⟩, ⟨(some 123), (.mov (.t 14)), none, []⟩, ⟨(some 124), (.mov (.t 7)), none, []⟩, ⟨(some 125), (.len 1 (.t 124)), none, []⟩, ⟨(some 126), (.idx 1 (.t 122) (.t 123)), none, []⟩, ⟨none, (.store none 1 (.t 126) (.t 125)),
  none, []⟩]) (.region [⟨(some 127), (.mov (.t 7)), none, []⟩, ⟨(some 128), (.mov (.t 14)), none, []⟩, ⟨(some 129), (.mk 2 1 [(.int .i64 0)] [(0, (1, (.t 128)))]), none, []⟩, ⟨(some 130), (.app 2 1 8 (.t 127) (.t 129)), none, []⟩, ⟨(some 7),
  (.mov (.t 130)), none, []⟩])) .skip)) (.region [⟨(some 131), (.mov (.t 11)), none, []⟩, ⟨(some 132), (.mov (.t 5)), none, []⟩, ⟨(some 133), (.mov (.t 14)), none, []⟩, ⟨(some 134), (.idx 1 (.t 132) (.t 133)), none, []⟩, ⟨(some 135), (.load
  none none (.t 134)), none, []⟩, ⟨(some 136), (.mk 2 1 [(.int .i64 0)] [(0, (1, (.t 135)))]), none, []⟩, ⟨(some 137), (.app 2 1 8 (.t 131) (.t 136)), none, []⟩, ⟨(some 11), (.mov (.t 137)), none, []⟩])))))) (.region [⟨(some 84), (.mov (.t
  12)), none, []⟩, ⟨(some 85), (.bin .add (.t 84) (.c (.int .i64 1))), none, []⟩, ⟨(some 12), (.mov (.t 85)), none, []⟩])))))) (.seq (.region [⟨(some 138), (.lea 2 (.t 8)), none, []⟩, ⟨(some 139), (.load none none (.t 138)), none, []⟩,
  ⟨(some 140), (.mov (.t 0)), none, []⟩, ⟨(some 141), (.nilck (.t 140)), none, []⟩, ⟨(some 142), (.lea 2 (.t 141)), none, []⟩, ⟨(some 143), (.load none none (.t 142)), none, []⟩, ⟨(some 144), (.mov (.t 10)), none, []⟩, ⟨(some 145), (.idx 1
  (.t 143) (.t 144)), none, []⟩, ⟨(some 146), (.load none none (.t 145)), none, []⟩, ⟨(some 147), (.mk 4 1 [(.bool false)] [(0, (1, (.t 146)))]), none, []⟩, ⟨(some 148), (.app 4 1 1 (.t 139) (.t 147)), none, []⟩, ⟨(some 149), (.lea 2 (.t
  8)), none, []⟩, ⟨none, (.store none 1 (.t 149) (.t 148)), none, []⟩]) (.region [⟨(some 150), (.lea 3 (.t 8)), none, []⟩, ⟨(some 151), (.load none none (.t 150)), none, []⟩, ⟨(some 152), (.mov (.t 11)), none, []⟩, ⟨(some 153), (.mk 67 1
  [.nils] [(0, (1, (.t 152)))]), none, []⟩, ⟨(some 154), (.app 67 1 24 (.t 151) (.t 153)), none, []⟩, ⟨(some 155), (.lea 3 (.t 8)), none, []⟩, ⟨none, (.store none 1 (.t 155) (.t 154)), none, []⟩])))))) (.region [⟨(some 68), (.mov (.t 9)),
  none, []⟩, ⟨(some 69), (.bin .add (.t 68) (.c (.int .i64 1))), none, []⟩, ⟨(some 9), (.mov (.t 69)), none, []⟩])))))) (.seq (.region [⟨(some 156), (.mov (.t 7)), none, []⟩, ⟨(some 157), (.len 1 (.t 156)), none, []⟩, ⟨(some 15), (.mov (.t
  157)), none, []⟩]) (.seq (.seq (.region [⟨(some 16), (.mov (.c (.int .i64 0))), none, []⟩]) (.block 6 (.loop (.seq (.seq (.region [⟨(some 158), (.mov (.t 16)), none, []⟩, ⟨(some 159), (.lea 3 (.t 8)), none, []⟩, ⟨(some 160), (.load none
  none (.t 159)), none, []⟩, ⟨(some 161), (.len 1 (.t 160)), none, []⟩, ⟨(some 162), (.bin .lss (.t 158) (.t 161)), none, []⟩]) (.cond (.t 162) .skip (.exit 6))) (.seq (.block 7 (.seq (.region [⟨(some 17), (.mov (.c (.int .i64 0))), none,
  []⟩]) (.block 8 (.loop (.seq (.seq (.region [⟨(some 165), (.mov (.t 17)), none, []⟩, ⟨(some 166), (.lea 3 (.t 8)), none, []⟩, ⟨(some 167), (.load none none (.t 166)), none, []⟩, ⟨(some 168), (.mov (.t 16)), none, []⟩, ⟨(some 169), (.idx 1
  (.t 167) (.t 168)), none, []⟩, ⟨(some 170), (.load none none (.t 169)), none, []⟩, ⟨(some 171), (.len 1 (.t 170)), none, []⟩, ⟨(some 172), (.bin .lss (.t 165) (.t 171)), none, []⟩]) (.cond (.t 172) .skip (.exit 8))) (.seq (.block 9 (.seq
  (.region [⟨(some 175), (.lea 3 (.t 8)), none, []⟩, ⟨(some 176), (.load none none (.t 175)), none, []⟩, ⟨(some 177), (.mov (.t 16)), none, []⟩, ⟨(some 178), (.idx 1 (.t 176) (.t 177)), none, []⟩, ⟨(some 179), (.load none none (.t 178)),
  none, []⟩, ⟨(some 180), (.mov (.t 17)), none, []⟩, ⟨(some 181), (.idx 1 (.t 179) (.t 180)), none, []⟩, ⟨(some 182), (.load none none (.t 181)), none, []⟩, ⟨(some 183), (.bin .lss (.t 182) (.c (.int .i64 0))), none, []⟩]) (.cond (.t 183)
  (.region [⟨(some 184), (.lea 3 (.t 8)), none, []⟩, ⟨(some 185), (.load none none (.t 184)), none, []⟩, ⟨(some 186), (.mov (.t 16)), none, []⟩, ⟨(some 187), (.idx 1 (.t 185) (.t 186)), none, []⟩, ⟨(some 188), (.load none none (.t 187)),
  none, []⟩, ⟨(some 189), (.mov (.t 17)), none, []⟩, ⟨(some 190), (.mov (.t 15)), none, []⟩, ⟨(some 191), (.idx 1 (.t 188) (.t 189)), none, []⟩, ⟨none, (.store none 1 (.t 191) (.t 190)), none, []⟩]) .skip))) (.region [⟨(some 173), (.mov (.t
  17)), none, []⟩, ⟨(some 174), (.bin .add (.t 173) (.c (.int .i64 1))), none, []⟩, ⟨(some 17), (.mov (.t 174)), none, []⟩]))))))) (.region [⟨(some 163), (.mov (.t 16)), none, []⟩, ⟨(some 164), (.bin .add (.t 163) (.c (.int .i64 1))), none,
  []⟩, ⟨(some 16), (.mov (.t 164)), none, []⟩])))))) (.seq (.region [⟨(some 192), (.mk 2 0 [] []), none, []⟩, ⟨(some 18), (.mov (.t 192)), none, []⟩]) (.seq (.seq (.region [⟨(some 19), (.mov (.c (.int .i64 0))), none, []⟩]) (.block 10 (.loop
  (.seq (.seq (.region [⟨(some 193), (.mov (.t 19)), none, []⟩, ⟨(some 194), (.mov (.t 0)), none, []⟩, ⟨(some 195), (.nilck (.t 194)), none, []⟩, ⟨(some 196), (.lea 0 (.t 195)), none, []⟩, ⟨(some 197), (.load none none (.t 196)), none, []⟩,
  ⟨(some 198), (.call (.c (.fn 135 [])) [(.t 197)]), none, []⟩, ⟨(some 199), (.bin .lss (.t 193) (.t 198)), none, []⟩]) (.cond (.t 199) .skip (.exit 10))) (.seq (.block 11 (.region [⟨(some 202), (.mov (.t 18)), none, []⟩, ⟨(some 203), (.mov
  (.t 15)), none, []⟩, ⟨(some 204), (.mk 2 1 [(.int .i64 0)] [(0, (1, (.t 203)))]), none, []⟩, ⟨(some 205), (.app 2 1 8 (.t 202) (.t 204)), none, []⟩, ⟨(some 18), (.mov (.t 205)), none, []⟩])) (.region [⟨(some 200), (.mov (.t 19)), none,
  []⟩, ⟨(some 201), (.bin .add (.t 200) (.c (.int .i64 1))), none, []⟩, ⟨(some 19), (.mov (.t 201)), none, []⟩])))))) (.seq (.region [⟨(some 206), (.lea 2 (.t 8)), none, []⟩, ⟨(some 207), (.load none none (.t 206)), none, []⟩, ⟨(some 208),
  (.mk 4 1 [(.bool false)] [(0, (1, (.c (.bool false))))]), none, []⟩, ⟨(some 209), (.app 4 1 1 (.t 207) (.t 208)), none, []⟩, ⟨(some 210), (.lea 2 (.t 8)), none, []⟩, ⟨none, (.store none 1 (.t 210) (.t 209)), none, []⟩]) (.seq (.region
  [⟨(some 211), (.lea 3 (.t 8)), none, []⟩, ⟨(some 212), (.load none none (.t 211)), none, []⟩, ⟨(some 213), (.mov (.t 18)), none, []⟩, ⟨(some 214), (.mk 67 1 [.nils] [(0, (1, (.t 213)))]), none, []⟩, ⟨(some 215), (.app 67 1 24 (.t 212) (.t
  214)), none, []⟩, ⟨(some 216), (.lea 3 (.t 8)), none, []⟩, ⟨none, (.store none 1 (.t 216) (.t 215)), none, []⟩]) (.seq (.region [⟨(some 217), (.load none (some 4) (.t 8)), none, []⟩, ⟨none, (.store none 4 (.t 2) (.t 217)), none, []⟩])
  .ret))))))))))))))))⟩
theorem irOk116 : compFun Tryz.prog.underlying Tryz.prog.info? sq Tryz.f116 = some ir116 := by kernel_rfl
def ir117 : BFun := ⟨[(.tmp 4), (.tmp 5)], (.seq (.region [⟨(some 4), (.mov (.c .nils)), none, []⟩, ⟨(some 5), (.mov (.c (.int .i64 0))), none, []⟩]) (.seq (.region [⟨(some 11), (.mov (.t 1)), none, []⟩, ⟨(some 12), (.len 1 (.t 11)), none,
  []⟩, ⟨(some 6), (.mov (.t 12)), none, []⟩]) (.seq (.region [⟨(some 13), (.mov (.t 6)), none, []⟩, ⟨(some 14), (.mksl 2 8 [(.int .i64 0)] (.t 13) (.t 13)), none, []⟩, ⟨(some 7), (.mov (.t 14)), none, []⟩]) (.seq (.region [⟨(some 15), (.mk 2
  0 [] []), none, []⟩, ⟨(some 8), (.mov (.t 15)), none, []⟩]) (.seq (.seq (.region [⟨(some 9), (.mov (.c (.int .i64 0))), none, []⟩]) (.block 0 (.loop (.seq (.seq (.region [⟨(some 16), (.mov (.t 9)), none, []⟩, ⟨(some 17), (.mov (.t 6)),
  none, []⟩, ⟨(some 18), (.bin .lss (.t 16) (.t 17)), none, []⟩]) (.cond (.t 18) .skip (.exit 0))) (.seq (.block 1 (.seq (.region [⟨(some 21), (.mov (.t 7)), none, []⟩, ⟨(some 22), (.mov (.t 9)), none, []⟩, ⟨(some 23), (.idx 1 (.t 21) (.t
  22)), none, []⟩, ⟨none, (.store none 1 (.t 23) (.c (.int .i64 (-1)))), none, []⟩]) (.seq (.seq (.region [⟨(some 10), (.mov (.c (.int .i64 0))), none, []⟩]) (.block 2 (.loop (.seq (.seq (.region [⟨(some 24), (.mov (.t 10)), none, []⟩,
  ⟨(some 25), (.mov (.t 8)), none, []⟩, ⟨(some 26), (.len 1 (.t 25)), none, []⟩, ⟨(some 27), (.bin .lss (.t 24) (.t 26)), none, []⟩, ⟨(some 28), (.mov (.t 27)), none, []⟩, ⟨(some 29), (.mov (.t 7)), (some (28, true)), []⟩, ⟨(some 30), (.mov
  (.t 9)), (some (28, true)), []⟩, ⟨(some 31), (.idx 1 (.t 29) (.t 30)), (some (28, true)), []⟩, ⟨(some 32), (.load none none (.t 31)), (some (28, true)), []⟩, ⟨(some 33), (.bin .lss (.t 32) (.c (.int .i64 0))), (some (28, true)), []⟩,
  ⟨(some 34), (.pick (.t 28) (.t 33) (.c (.bool false))), none, []⟩]) (.cond (.t 34) .skip (.exit 2))) (.seq (.block 3 (.seq (.region [⟨(some 37), (.mov (.t 1)), none, []⟩, ⟨(some 38), (.mov (.t 8)), none, []⟩, ⟨(some 39), (.mov (.t 10)),
  none, []⟩, ⟨(some 40), (.idx 1 (.t 38) (.t 39)), none, []⟩, ⟨(some 41), (.load none none (.t 40)), none, []⟩, ⟨(some 42), (.idx 1 (.t 37) (.t 41)), none, []⟩, ⟨(some 43), (.load none none (.t 42)), none, []⟩, ⟨(some 44), (.mov (.t 1)),
  none, []⟩, ⟨(some 45), (.mov (.t 9)), none, []⟩, ⟨(some 46), (.idx 1 (.t 44) (.t 45)), none, []⟩, ⟨(some 47), (.load none none (.t 46)), none, []⟩, ⟨(some 48), (.bin .eql (.t 43) (.t 47)), none, []⟩, ⟨(some 49), (.mov (.t 48)), none, []⟩,
  ⟨(some 50), (.mov (.t 0)), (some (49, true)), []⟩, ⟨(some 51), (.mov (.t 1)), (some (49, true)), []⟩, ⟨(some 52), (.mov (.t 8)), (some (49, true)), []⟩, ⟨(some 53), (.mov (.t 10)), (some (49, true)), []⟩, ⟨(some 54), (.idx 1 (.t 52) (.t
  53)), (some (49, true)), []⟩, ⟨(some 55), (.load none none (.t 54)), (some (49, true)), []⟩, ⟨(some 56), (.mov (.t 9)), (some (49, true)), []⟩, ⟨(some 57), (.call (.c (.fn 171 [])) [(.t 50), (.t 51), (.t 55), (.t 56)]), (some (49, true)),
  []⟩, ⟨(some 58), (.pick (.t 49) (.t 57) (.c (.bool false))), none, []⟩]) (.cond (.t 58) (.region [⟨(some 59), (.mov (.t 7)), none, []⟩, ⟨(some 60), (.mov (.t 9)), none, []⟩, ⟨(some 61), (.mov (.t 10)), none, []⟩, ⟨(some 62), (.idx 1 (.t
  59) (.t 60)), none, []⟩, ⟨none, (.store none 1 (.t 62) (.t 61)), none, []⟩]) .skip))) (.region [⟨(some 35), (.mov (.t 10)), none, []⟩, ⟨(some 36), (.bin .add (.t 35) (.c (.int .i64 1))), none, []⟩, ⟨(some 10), (.mov (.t 36)), none,
  []⟩])))))) (.seq (.region [⟨(some 63), (.mov (.t 7)), none, []⟩, ⟨(some 64), (.mov (.t 9)), none, []⟩, ⟨(some 65), (.idx 1 (.t 63) (.t 64)), none, []⟩, ⟨(some 66), (.load none none (.t 65)), none, []⟩, ⟨(some 67), (.bin .lss (.t 66) (.c
  (.int .i64 0))), none, []⟩]) (.cond (.t 67) (.seq (.region [⟨(some 68), (.mov (.t 7)), none, []⟩, ⟨(some 69), (.mov (.t 9)), none, []⟩, ⟨(some 70), (.mov (.t 8)), none, []⟩, ⟨(some 71), (.len 1 (.t 70)), none, []⟩, ⟨(some 72), (.idx 1 (.t
  68) (.t 69)), none, []⟩, ⟨none, (.store none 1 (.t 72) (.t 71)), none, []⟩]) (.region [⟨(some 73), (.mov (.t 8)), none, []⟩, ⟨(some 74), (.mov (.t 9)), none, []⟩, ⟨(some 75), (.mk 2 1 [(.int .i64 0)] [(0, (1, (.t 74)))]), none, []⟩, ⟨(some
  76), (.app 2 1 8 (.t 73) (.t 75)), none, []⟩, ⟨(some 8), (.mov (.t 76)), none, []⟩])) .skip))))) (.region [⟨(some 19), (.mov (.t 9)), none, []⟩, ⟨(some 20), (.bin .add (.t 19) (.c (.int .i64 1))), none, []⟩, ⟨(some 9), (.mov (.t 20)),
  none, []⟩])))))) (.seq (.region [⟨(some 77), (.mov (.t 7)), none, []⟩, ⟨(some 78), (.mov (.t 8)), none, []⟩, ⟨(some 79), (.len 1 (.t 78)), none, []⟩, ⟨(some 4), (.mov (.t 77)), none, []⟩, ⟨(some 5), (.mov (.t 79)), none, []⟩]) .ret))))))⟩
theorem irOk117 : compFun Tryz.prog.underlying Tryz.prog.info? sq Tryz.f117 = some ir117 := by kernel_rfl
def ir123 : BFun := ⟨[(.tmp 2)], (.seq (.region [⟨(some 2), (.mov (.c (.bool false))), none, []⟩]) (.seq (.region [⟨(some 3), (.mov (.t 0)), none, []⟩, ⟨(some 4), (.call (.c (.fn 58 [])) [(.t 3), (.c (.int .i64 1)), (.c (.int .i64 3))]),
  none, []⟩, ⟨(some 2), (.mov (.t 4)), none, []⟩]) .ret))⟩
theorem irOk123 : compFun Tryz.prog.underlying Tryz.prog.info? sq Tryz.f123 = some ir123 := by kernel_rfl
def ir125 : BFun := ⟨[(.cell 0 (some 4))], (.seq (.region [⟨(some 0), (.new 29 [(.int .i64 0), (.int .i64 0), .nils, .nils]), none, []⟩]) (.seq (.region [⟨(some 6), (.call (.c (.fn 159 [])) [(.c (.int .i64 1)), (.c (.int .i64 1)), (.c (.int
  .i64 0)), (.c (.fn 176 [])), (.c (.fn 177 []))]), none, []⟩, ⟨(some 5), (.mov (.t 6)), none, []⟩, ⟨(some 7), (.ext 0 (.t 5)), none, []⟩, ⟨(some 8), (.ext 1 (.t 5)), none, []⟩, ⟨(some 1), (.new 80 [(.int .i64 0), (.int .i64 0), .nils,
  .nils]), none, []⟩, ⟨none, (.store none 4 (.t 1) (.t 7)), none, []⟩, ⟨(some 2), (.mov (.t 8)), none, []⟩]) (.seq (.region [⟨(some 10), (.load none (some 4) (.t 1)), none, []⟩, ⟨(some 11), (.call (.c (.fn 95 [])) [(.t 10)]), none, []⟩,
  ⟨(some 9), (.mov (.t 11)), none, []⟩, ⟨(some 12), (.ext 0 (.t 9)), none, []⟩, ⟨(some 13), (.ext 1 (.t 9)), none, []⟩, ⟨(some 3), (.new 29 [(.int .i64 0), (.int .i64 0), .nils, .nils]), none, []⟩, ⟨none, (.store none 4 (.t 3) (.t 12)),
  none, []⟩, ⟨(some 4), (.mov (.t 13)), none, []⟩]) (.seq (.region [⟨(some 14), (.load none (some 4) (.t 3)), none, []⟩, ⟨none, (.store none 4 (.t 0) (.t 14)), none, []⟩]) .ret))))⟩
theorem irOk125 : compFun Tryz.prog.underlying Tryz.prog.info? sq Tryz.f125 = some ir125 := by kernel_rfl
def ir126 : BFun := ⟨[(.cell 2 (some 4))], (.seq (.region [⟨(some 1), (.box 29 (.t 0)), none, []⟩, ⟨(some 2), (.new 80 [(.int .i64 0), (.int .i64 0), .nils, .nils]), none, []⟩]) (.seq (.region [⟨(some 9), (.lea 0 (.t 1)), none, []⟩, ⟨(some
  10), (.load (some 29) none (.t 9)), none, []⟩, ⟨(some 11), (.lea 1 (.t 1)), none, []⟩, ⟨(some 12), (.load (some 29) none (.t 11)), none, []⟩, ⟨(some 13), (.lea 2 (.t 1)), none, []⟩, ⟨(some 14), (.load none none (.t 13)), none, []⟩, ⟨(some
  15), (.call (.c (.fn 134 [])) [(.t 14)]), none, [29]⟩, ⟨(some 16), (.build [(.int .i64 0), (.int .i64 0), .nils, .nils] [(0, (1, (.t 10))), (1, (1, (.t 12))), (2, (1, (.t 15)))]), none, []⟩, ⟨(some 3), (.new 80 [(.int .i64 0), (.int .i64
  0), .nils, .nils]), none, []⟩, ⟨none, (.store none 4 (.t 3) (.t 16)), none, []⟩]) (.seq (.seq (.region [⟨(some 17), (.lea 3 (.t 1)), none, []⟩, ⟨(some 18), (.load none none (.t 17)), none, []⟩, ⟨(some 19), (.len 1 (.t 18)), none, []⟩,
  ⟨(some 20), (.mov (.c (.int .i64 0))), none, []⟩]) (.block 0 (.loop (.seq (.region [⟨(some 21), (.bin .lss (.t 20) (.t 19)), none, []⟩]) (.seq (.cond (.t 21) .skip (.exit 0)) (.seq (.block 1 (.seq (.region [⟨(some 22), (.idx 1 (.t 18) (.t
  20)), none, []⟩, ⟨(some 23), (.load none none (.t 22)), none, []⟩, ⟨(some 5), (.mov (.t 23)), none, []⟩]) (.seq (.region [⟨(some 6), (.mov (.c .nils)), none, []⟩]) (.seq (.seq (.region [⟨(some 24), (.mov (.t 5)), none, []⟩, ⟨(some 25),
  (.len 1 (.t 24)), none, []⟩, ⟨(some 26), (.mov (.c (.int .i64 0))), none, []⟩]) (.block 2 (.loop (.seq (.region [⟨(some 27), (.bin .lss (.t 26) (.t 25)), none, []⟩]) (.seq (.cond (.t 27) .skip (.exit 2)) (.seq (.block 3 (.seq (.region
  [⟨(some 28), (.idx 1 (.t 24) (.t 26)), none, []⟩, ⟨(some 29), (.load none none (.t 28)), none, []⟩, ⟨(some 8), (.mov (.t 29)), none, []⟩]) (.region [⟨(some 30), (.mov (.t 6)), none, []⟩, ⟨(some 31), (.mov (.t 8)), none, []⟩, ⟨(some 32),
  (.mk 3 1 [(.int .i64 0)] [(0, (1, (.t 31)))]), none, []⟩, ⟨(some 33), (.app 3 1 8 (.t 30) (.t 32)), none, []⟩, ⟨(some 6), (.mov (.t 33)), none, []⟩]))) (.region [⟨(some 34), (.bin .add (.t 26) (.c (.int .i64 1))), none, []⟩, ⟨(some 26),
  (.mov (.t 34)), none, []⟩]))))))) (.region [⟨(some 35), (.lea 3 (.t 3)), none, []⟩, ⟨(some 36), (.load none none (.t 35)), none, []⟩, ⟨(some 37), (.mov (.t 6)), none, []⟩, ⟨(some 38), (.mk 84 1 [.nils] [(0, (1, (.t 37)))]), none, []⟩,
  ⟨(some 39), (.app 84 1 24 (.t 36) (.t 38)), none, []⟩, ⟨(some 40), (.lea 3 (.t 3)), none, []⟩, ⟨none, (.store none 1 (.t 40) (.t 39)), none, []⟩]))))) (.region [⟨(some 41), (.bin .add (.t 20) (.c (.int .i64 1))), none, []⟩, ⟨(some 20),
  (.mov (.t 41)), none, []⟩]))))))) (.seq (.region [⟨(some 42), (.load none (some 4) (.t 3)), none, []⟩, ⟨none, (.store none 4 (.t 2) (.t 42)), none, []⟩]) .ret))))⟩
theorem irOk126 : compFun Tryz.prog.underlying Tryz.prog.info? sq Tryz.f126 = some ir126 := by kernel_rfl
def ir127 : BFun := ⟨[(.cell 2 (some 4))], (.seq (.region [⟨(some 1), (.box 80 (.t 0)), none, []⟩, ⟨(some 2), (.new 80 [(.int .i64 0), (.int .i64 0), .nils, .nils]), none, []⟩]) (.seq (.region [⟨(some 9), (.lea 0 (.t 1)), none, []⟩, ⟨(some
  10), (.load none none (.t 9)), none, []⟩, ⟨(some 11), (.call (.c (.fn 110 [])) [(.t 10)]), none, []⟩, ⟨(some 12), (.mksl 3 8 [(.int .i64 0)] (.t 11) (.t 11)), none, []⟩, ⟨(some 3), (.new 84 [.nils]), none, []⟩, ⟨none, (.store none 1 (.t 3)
  (.t 12)), none, []⟩]) (.seq (.seq (.region [⟨(some 13), (.load none none (.t 3)), none, []⟩, ⟨(some 14), (.len 1 (.t 13)), none, []⟩, ⟨(some 15), (.mov (.c (.int .i64 0))), none, []⟩]) (.block 0 (.loop (.seq (.region [⟨(some 16), (.bin
  .lss (.t 15) (.t 14)), none, []⟩]) (.seq (.cond (.t 16) .skip (.exit 0)) (.seq (.block 1 (.seq (.region [⟨(some 17), (.mov (.t 15)), none, []⟩, ⟨(some 4), (.mov (.t 17)), none, []⟩]) (.seq (.region [⟨(some 18), (.lea 0 (.t 1)), none, []⟩,
  ⟨(some 19), (.load none none (.t 18)), none, []⟩, ⟨(some 20), (.mov (.t 4)), none, []⟩, ⟨(some 21), (.call (.c (.fn 111 [])) [(.t 19), (.t 20)]), none, []⟩, ⟨(some 22), (.len 1 (.t 21)), none, []⟩, ⟨(some 23), (.mov (.c (.int .i64 0))),
  none, []⟩]) (.block 2 (.loop (.seq (.region [⟨(some 24), (.bin .lss (.t 23) (.t 22)), none, []⟩]) (.seq (.cond (.t 24) .skip (.exit 2)) (.seq (.block 3 (.seq (.region [⟨(some 25), (.mov (.t 23)), none, []⟩, ⟨(some 26), (.idx 1 (.t 21) (.t
  23)), none, []⟩, ⟨(some 27), (.load none none (.t 26)), none, []⟩, ⟨(some 5), (.mov (.t 25)), none, []⟩, ⟨(some 6), (.mov (.t 27)), none, []⟩]) (.seq (.region [⟨(some 28), (.mov (.t 6)), none, []⟩, ⟨(some 29), (.bin .eql (.t 28) (.c (.int
  .i64 2))), none, []⟩]) (.cond (.t 29) (.region [⟨(some 30), (.load none none (.t 3)), none, []⟩, ⟨(some 31), (.mov (.t 4)), none, []⟩, ⟨(some 32), (.idx 1 (.t 30) (.t 31)), none, []⟩, ⟨(some 33), (.load none none (.t 32)), none, []⟩,
  ⟨(some 34), (.mov (.t 5)), none, []⟩, ⟨(some 35), (.bin .shl (.c (.int .i64 1)) (.t 34)), none, []⟩, ⟨(some 36), (.bin .or (.t 33) (.t 35)), none, []⟩, ⟨(some 37), (.idx 1 (.t 30) (.t 31)), none, []⟩, ⟨none, (.store none 1 (.t 37) (.t
  36)), none, []⟩]) .skip)))) (.region [⟨(some 38), (.bin .add (.t 23) (.c (.int .i64 1))), none, []⟩, ⟨(some 23), (.mov (.t 38)), none, []⟩]))))))))) (.region [⟨(some 39), (.bin .add (.t 15) (.c (.int .i64 1))), none, []⟩, ⟨(some 15), (.mov
  (.t 39)), none, []⟩]))))))) (.seq (.region [⟨(some 41), (.lea 0 (.t 1)), none, []⟩, ⟨(some 42), (.load none none (.t 41)), none, []⟩, ⟨(some 43), (.lea 1 (.t 1)), none, []⟩, ⟨(some 44), (.load none none (.t 43)), none, []⟩, ⟨(some 45),
  (.build [(.int .i64 0), (.int .i64 0)] [(0, (1, (.t 44)))]), none, []⟩, ⟨(some 46), (.mkfn 179 [(.t 1)]), none, []⟩, ⟨(some 47), (.mkfn 180 [(.t 3), (.t 1)]), none, []⟩, ⟨(some 48), (.call (.c (.fn 178 [])) [(.t 42), (.t 45), (.c (.int
  .i64 0)), (.t 46), (.t 47)]), none, []⟩, ⟨(some 40), (.mov (.t 48)), none, []⟩, ⟨(some 49), (.ext 0 (.t 40)), none, []⟩, ⟨(some 50), (.ext 1 (.t 40)), none, []⟩, ⟨(some 7), (.new 80 [(.int .i64 0), (.int .i64 0), .nils, .nils]), none, []⟩,
  ⟨none, (.store none 4 (.t 7) (.t 49)), none, []⟩, ⟨(some 8), (.mov (.t 50)), none, []⟩]) (.seq (.region [⟨(some 51), (.load none (some 4) (.t 7)), none, []⟩, ⟨(some 52), (.call (.c (.fn 181 [])) [(.t 51)]), none, []⟩, ⟨none, (.store none 4
  (.t 2) (.t 52)), none, []⟩]) .ret)))))⟩
theorem irOk127 : compFun Tryz.prog.underlying Tryz.prog.info? sq Tryz.f127 = some ir127 := by kernel_rfl
def ir134 : BFun := ⟨[(.tmp 2)], (.seq (.region [⟨(some 2), (.mov (.c .nils)), none, []⟩]) (.seq (.seq (.region [⟨(some 3), (.mov (.t 0)), none, []⟩, ⟨(some 4), (.isnil false (.t 3)), none, []⟩]) (.cond (.t 4) (.seq (.region [⟨(some 2),
  (.mov (.c .nils)), none, []⟩]) .ret) .skip)) (.seq (.region [⟨(some 5), (.mk 4 0 [] []), none, []⟩, ⟨(some 6), (.mov (.t 0)), none, []⟩, ⟨(some 7), (.app 4 1 1 (.t 5) (.t 6)), none, []⟩, ⟨(some 2), (.mov (.t 7)), none, []⟩]) .ret)))⟩
theorem irOk134 : compFun Tryz.prog.underlying Tryz.prog.info? sq Tryz.f134 = some ir134 := by kernel_rfl
def ir135 : BFun := ⟨[(.tmp 2)], (.seq (.region [⟨(some 2), (.mov (.c (.int .i64 0))), none, []⟩]) (.seq (.region [⟨(some 3), (.mov (.t 0)), none, []⟩, ⟨(some 4), (.call (.c (.fn 194 [])) [(.t 3)]), none, []⟩, ⟨(some 5), (.bin .sub (.t 4)
  (.c (.int .i64 1))), none, []⟩, ⟨(some 2), (.mov (.t 5)), none, []⟩]) .ret))⟩
theorem irOk135 : compFun Tryz.prog.underlying Tryz.prog.info? sq Tryz.f135 = some ir135 := by kernel_rfl
def ir136 : BFun := ⟨[(.tmp 4)], (.seq (.region [⟨(some 4), (.mov (.c (.int .i64 0))), none, []⟩]) (.seq (.seq (.region [⟨(some 5), (.mov (.t 0)), none, []⟩, ⟨(some 6), (.call (.c (.fn 42 [])) [(.t 5)]), none, []⟩, ⟨(some 7), (.not (.t 6)),
  none, []⟩, ⟨(some 8), (.mov (.t 7)), none, []⟩, ⟨(some 9), (.mov (.t 1)), (some (8, false)), []⟩, ⟨(some 10), (.call (.c (.fn 42 [])) [(.t 9)]), (some (8, false)), []⟩, ⟨(some 11), (.not (.t 10)), (some (8, false)), []⟩, ⟨(some 12), (.pick
  (.t 8) (.c (.bool true)) (.t 11)), none, []⟩]) (.cond (.t 12) (.seq (.region [⟨(some 4), (.mov (.c (.int .i64 1))), none, []⟩]) .ret) .skip)) (.seq (.seq (.region [⟨(some 13), (.mov (.t 0)), none, []⟩, ⟨(some 14), (.nilck (.t 13)), none,
  []⟩, ⟨(some 15), (.lea 0 (.t 14)), none, []⟩, ⟨(some 16), (.load none none (.t 15)), none, []⟩, ⟨(some 17), (.mov (.t 1)), none, []⟩, ⟨(some 18), (.nilck (.t 17)), none, []⟩, ⟨(some 19), (.lea 0 (.t 18)), none, []⟩, ⟨(some 20), (.load none
  none (.t 19)), none, []⟩, ⟨(some 21), (.bin .neq (.t 16) (.t 20)), none, []⟩]) (.cond (.t 21) (.seq (.region [⟨(some 4), (.mov (.c (.int .i64 2))), none, []⟩]) .ret) .skip)) (.seq (.region [⟨(some 4), (.mov (.c (.int .i64 0))), none, []⟩])
  .ret))))⟩
theorem irOk136 : compFun Tryz.prog.underlying Tryz.prog.info? sq Tryz.f136 = some ir136 := by kernel_rfl
def ir137 : BFun := ⟨[(.cell 6 (some 4))], (.seq (.region [⟨(some 6), (.new 29 [(.int .i64 0), (.int .i64 0), .nils, .nils]), none, []⟩]) (.seq (.region [⟨(some 13), (.mov (.t 0)), none, []⟩, ⟨(some 14), (.mov (.t 1)), none, []⟩, ⟨(some 15),
  (.call (.c (.fn 195 [])) [(.t 13), (.t 14)]), none, []⟩, ⟨(some 7), (.new 29 [(.int .i64 0), (.int .i64 0), .nils, .nils]), none, []⟩, ⟨none, (.store none 4 (.t 7) (.t 15)), none, []⟩]) (.seq (.region [⟨(some 16), (.mov (.t 1)), none, []⟩,
  ⟨(some 17), (.nilck (.t 16)), none, []⟩, ⟨(some 18), (.lea 2 (.t 17)), none, []⟩, ⟨(some 19), (.load none none (.t 18)), none, []⟩, ⟨(some 20), (.len 1 (.t 19)), none, []⟩, ⟨(some 8), (.mov (.t 20)), none, []⟩]) (.seq (.seq (.region
  [⟨(some 9), (.mov (.c (.int .i64 0))), none, []⟩]) (.block 0 (.loop (.seq (.seq (.region [⟨(some 21), (.mov (.t 9)), none, []⟩, ⟨(some 22), (.mov (.t 0)), none, []⟩, ⟨(some 23), (.nilck (.t 22)), none, []⟩, ⟨(some 24), (.lea 2 (.t 23)),
  none, []⟩, ⟨(some 25), (.load none none (.t 24)), none, []⟩, ⟨(some 26), (.len 1 (.t 25)), none, []⟩, ⟨(some 27), (.bin .lss (.t 21) (.t 26)), none, []⟩]) (.cond (.t 27) .skip (.exit 0))) (.seq (.block 1 (.seq (.region [⟨(some 10), (.mov
  (.c (.int .i64 0))), none, []⟩]) (.block 2 (.loop (.seq (.seq (.region [⟨(some 30), (.mov (.t 10)), none, []⟩, ⟨(some 31), (.mov (.t 8)), none, []⟩, ⟨(some 32), (.bin .lss (.t 30) (.t 31)), none, []⟩]) (.cond (.t 32) .skip (.exit 2)))
  (.seq (.block 3 (.seq (.region [⟨(some 35), (.mov (.t 0)), none, []⟩, ⟨(some 36), (.nilck (.t 35)), none, []⟩, ⟨(some 37), (.lea 2 (.t 36)), none, []⟩, ⟨(some 38), (.load none none (.t 37)), none, []⟩, ⟨(some 39), (.mov (.t 9)), none, []⟩,
  ⟨(some 40), (.idx 1 (.t 38) (.t 39)), none, []⟩, ⟨(some 41), (.load none none (.t 40)), none, []⟩, ⟨(some 11), (.mov (.t 41)), none, []⟩]) (.seq (.region [⟨(some 42), (.mov (.t 1)), none, []⟩, ⟨(some 43), (.nilck (.t 42)), none, []⟩,
  ⟨(some 44), (.lea 2 (.t 43)), none, []⟩, ⟨(some 45), (.load none none (.t 44)), none, []⟩, ⟨(some 46), (.mov (.t 10)), none, []⟩, ⟨(some 47), (.idx 1 (.t 45) (.t 46)), none, []⟩, ⟨(some 48), (.load none none (.t 47)), none, []⟩, ⟨(some
  12), (.mov (.t 48)), none, []⟩]) (.seq (.region [⟨(some 49), (.mov (.t 2)), none, []⟩]) (.block 4 (.seq (.region [⟨(some 64), (.bin .eql (.t 49) (.c (.int .i64 1))), none, []⟩, ⟨(some 63), (.mov (.t 64)), none, []⟩]) (.cond (.t 63)
  (.region [⟨(some 65), (.lea 2 (.t 7)), none, []⟩, ⟨(some 66), (.load none none (.t 65)), none, []⟩, ⟨(some 67), (.mov (.t 9)), none, []⟩, ⟨(some 68), (.mov (.t 8)), none, []⟩, ⟨(some 69), (.bin .mul (.t 67) (.t 68)), none, []⟩, ⟨(some 70),
  (.mov (.t 10)), none, []⟩, ⟨(some 71), (.bin .add (.t 69) (.t 70)), none, []⟩, ⟨(some 72), (.mov (.t 11)), none, []⟩, ⟨(some 73), (.mov (.t 72)), none, []⟩, ⟨(some 74), (.mov (.t 12)), (some (73, true)), []⟩, ⟨(some 75), (.pick (.t 73) (.t
  74) (.c (.bool false))), none, []⟩, ⟨(some 76), (.idx 1 (.t 66) (.t 71)), none, []⟩, ⟨none, (.store none 1 (.t 76) (.t 75)), none, []⟩]) (.seq (.region [⟨(some 78), (.bin .eql (.t 49) (.c (.int .i64 2))), none, []⟩, ⟨(some 77), (.mov (.t
  78)), none, []⟩]) (.cond (.t 77) (.region [⟨(some 79), (.lea 2 (.t 7)), none, []⟩, ⟨(some 80), (.load none none (.t 79)), none, []⟩, ⟨(some 81), (.mov (.t 9)), none, []⟩, ⟨(some 82), (.mov (.t 8)), none, []⟩, ⟨(some 83), (.bin .mul (.t 81)
  (.t 82)), none, []⟩, ⟨(some 84), (.mov (.t 10)), none, []⟩, ⟨(some 85), (.bin .add (.t 83) (.t 84)), none, []⟩, ⟨(some 86), (.mov (.t 11)), none, []⟩, ⟨(some 87), (.mov (.t 86)), none, []⟩, ⟨(some 88), (.mov (.t 12)), (some (87, false)),
  []⟩, ⟨(some 89), (.pick (.t 87) (.c (.bool true)) (.t 88)), none, []⟩, ⟨(some 90), (.idx 1 (.t 80) (.t 85)), none, []⟩, ⟨none, (.store none 1 (.t 90) (.t 89)), none, []⟩]) (.region [⟨(some 50), (.lea 2 (.t 7)), none, []⟩, ⟨(some 51),
  (.load none none (.t 50)), none, []⟩, ⟨(some 52), (.mov (.t 9)), none, []⟩, ⟨(some 53), (.mov (.t 8)), none, []⟩, ⟨(some 54), (.bin .mul (.t 52) (.t 53)), none, []⟩, ⟨(some 55), (.mov (.t 10)), none, []⟩, ⟨(some 56), (.bin .add (.t 54) (.t
  55)), none, []⟩, ⟨(some 57), (.mov (.t 11)), none, []⟩, ⟨(some 58), (.mov (.t 57)), none, []⟩, ⟨(some 59), (.mov (.t 12)), (some (58, true)), []⟩, ⟨(some 60), (.not (.t 59)), (some (58, true)), []⟩, ⟨(some 61), (.pick (.t 58) (.t 60) (.c
  (.bool false))), none, []⟩, ⟨(some 62), (.idx 1 (.t 51) (.t 56)), none, []⟩, ⟨none, (.store none 1 (.t 62) (.t 61)), none, []⟩])))))))))) (.region [⟨(some 33), (.mov (.t 10)), none, []⟩, ⟨(some 34), (.bin .add (.t 33) (.c (.int .i64 1))),
  none, []⟩, ⟨(some 10), (.mov (.t 34)), none, []⟩]))))))) (.region [⟨(some 28), (.mov (.t 9)), none, []⟩, ⟨(some 29), (.bin .add (.t 28) (.c (.int .i64 1))), none, []⟩, ⟨(some 9), (.mov (.t 29)), none, []⟩])))))) (.seq (.region [⟨(some 91),
  (.load none (some 4) (.t 7)), none, []⟩, ⟨none, (.store none 4 (.t 6) (.t 91)), none, []⟩]) .ret)))))⟩
theorem irOk137 : compFun Tryz.prog.underlying Tryz.prog.info? sq Tryz.f137 = some ir137 := by kernel_rfl
def ir138 : BFun := ⟨[(.tmp 6)], (.seq (.region [⟨(some 6), (.mov (.c (.int .i64 0))), none, []⟩]) (.seq (.region [⟨(some 7), (.mov (.c (.int .i64 0))), none, []⟩]) (.seq (.region [⟨(some 8), (.mov (.c (.int .i64 0))), none, []⟩]) (.seq
  (.seq (.region [⟨(some 9), (.mov (.c (.int .i64 0))), none, []⟩]) (.block 0 (.loop (.seq (.seq (.region [⟨(some 10), (.mov (.t 9)), none, []⟩, ⟨(some 11), (.mov (.t 1)), none, []⟩, ⟨(some 12), (.bin .lss (.t 10) (.t 11)), none, []⟩])
  (.cond (.t 12) .skip (.exit 0))) (.seq (.block 1 (.seq (.region [⟨(some 15), (.mov (.t 9)), none, []⟩, ⟨(some 16), (.mov (.t 2)), none, []⟩, ⟨(some 17), (.bin .neq (.t 15) (.t 16)), none, []⟩]) (.cond (.t 17) (.seq (.region [⟨(some 18),
  (.mov (.t 7)), none, []⟩, ⟨(some 19), (.mov (.t 0)), none, []⟩, ⟨(some 20), (.mov (.t 9)), none, []⟩, ⟨(some 21), (.call (.c (.fn 158 [])) [(.t 19), (.t 20)]), none, []⟩, ⟨(some 22), (.mov (.t 8)), none, []⟩, ⟨(some 23), (.call (.c (.fn
  194 [])) [(.t 22)]), none, []⟩, ⟨(some 24), (.bin .mul (.t 21) (.t 23)), none, []⟩, ⟨(some 25), (.bin .add (.t 18) (.t 24)), none, []⟩, ⟨(some 7), (.mov (.t 25)), none, []⟩]) (.region [⟨(some 26), (.mov (.t 8)), none, []⟩, ⟨(some 27),
  (.bin .add (.t 26) (.c (.int .i64 1))), none, []⟩, ⟨(some 8), (.mov (.t 27)), none, []⟩])) .skip))) (.region [⟨(some 13), (.mov (.t 9)), none, []⟩, ⟨(some 14), (.bin .add (.t 13) (.c (.int .i64 1))), none, []⟩, ⟨(some 9), (.mov (.t 14)),
  none, []⟩])))))) (.seq (.region [⟨(some 28), (.mov (.t 7)), none, []⟩, ⟨(some 6), (.mov (.t 28)), none, []⟩]) .ret)))))⟩
theorem irOk138 : compFun Tryz.prog.underlying Tryz.prog.info? sq Tryz.f138 = some ir138 := by kernel_rfl
def ir139 : BFun := ⟨[(.cell 6 (some 4)), (.tmp 7)], (.seq (.region [⟨(some 6), (.new 29 [(.int .i64 0), (.int .i64 0), .nils, .nils]), none, []⟩, ⟨(some 7), (.mov (.c (.int .i64 0))), none, []⟩]) (.seq (.region [⟨(some 11), (.mov (.t 0)),
  none, []⟩, ⟨(some 12), (.call (.c (.fn 67 [])) [(.t 11)]), none, []⟩, ⟨(some 8), (.new 29 [(.int .i64 0), (.int .i64 0), .nils, .nils]), none, []⟩, ⟨none, (.store none 4 (.t 8) (.t 12)), none, []⟩]) (.seq (.region [⟨(some 13), (.mov (.t
  1)), none, []⟩, ⟨(some 14), (.call (.c (.fn 67 [])) [(.t 13)]), none, []⟩, ⟨(some 9), (.new 29 [(.int .i64 0), (.int .i64 0), .nils, .nils]), none, []⟩, ⟨none, (.store none 4 (.t 9) (.t 14)), none, []⟩]) (.seq (.seq (.region [⟨(some 15),
  (.lea 2 (.t 8)), none, []⟩, ⟨(some 16), (.load none none (.t 15)), none, []⟩, ⟨(some 17), (.len 1 (.t 16)), none, []⟩, ⟨(some 18), (.lea 2 (.t 9)), none, []⟩, ⟨(some 19), (.load none none (.t 18)), none, []⟩, ⟨(some 20), (.len 1 (.t 19)),
  none, []⟩, ⟨(some 21), (.bin .mul (.t 17) (.t 20)), none, []⟩, ⟨(some 22), (.bin .gtr (.t 21) (.c (.int .i64 1000))), none, []⟩]) (.cond (.t 22) (.seq (.region [⟨(some 23), (.build [(.int .i64 0), (.int .i64 0), .nils, .nils] []), none,
  []⟩, ⟨none, (.store none 4 (.t 6) (.t 23)), none, []⟩, ⟨(some 7), (.mov (.c (.int .i64 3))), none, []⟩]) .ret) .skip)) (.seq (.region [⟨(some 24), (.mov (.t 2)), none, []⟩, ⟨(some 25), (.call (.c (.fn 137 [])) [(.t 8), (.t 9), (.t 24)]),
  none, []⟩, ⟨(some 10), (.new 29 [(.int .i64 0), (.int .i64 0), .nils, .nils]), none, []⟩, ⟨none, (.store none 4 (.t 10) (.t 25)), none, []⟩]) (.seq (.region [⟨(some 26), (.call (.c (.fn 67 [])) [(.t 10)]), none, []⟩, ⟨(some 27), (.call (.c
  (.fn 86 [])) [(.t 26)]), none, []⟩, ⟨(some 28), (.ext 0 (.t 27)), none, []⟩, ⟨(some 29), (.ext 1 (.t 27)), none, []⟩, ⟨none, (.store none 4 (.t 6) (.t 28)), none, []⟩, ⟨(some 7), (.mov (.t 29)), none, []⟩]) .ret))))))⟩
theorem irOk139 : compFun Tryz.prog.underlying Tryz.prog.info? sq Tryz.f139 = some ir139 := by kernel_rfl
def ir144 : BFun := ⟨[(.cell 6 (some 4))], (.seq (.region [⟨(some 3), (.box 80 (.t 0)), none, []⟩, ⟨(some 6), (.new 80 [(.int .i64 0), (.int .i64 0), .nils, .nils]), none, []⟩]) (.seq (.region [⟨(some 15), (.mov (.t 1)), none, []⟩, ⟨(some
  16), (.call (.c (.fn 110 [])) [(.t 15)]), none, []⟩, ⟨(some 17), (.mksl 3 8 [(.int .i64 0)] (.t 16) (.t 16)), none, []⟩, ⟨(some 7), (.mov (.t 17)), none, []⟩]) (.seq (.seq (.region [⟨(some 18), (.mov (.t 7)), none, []⟩, ⟨(some 19), (.len 1
  (.t 18)), none, []⟩, ⟨(some 20), (.mov (.c (.int .i64 0))), none, []⟩]) (.block 0 (.loop (.seq (.region [⟨(some 21), (.bin .lss (.t 20) (.t 19)), none, []⟩]) (.seq (.cond (.t 21) .skip (.exit 0)) (.seq (.block 1 (.seq (.region [⟨(some 22),
  (.mov (.t 20)), none, []⟩, ⟨(some 8), (.mov (.t 22)), none, []⟩]) (.region [⟨(some 23), (.mov (.t 7)), none, []⟩, ⟨(some 24), (.mov (.t 8)), none, []⟩, ⟨(some 25), (.mov (.t 2)), none, []⟩, ⟨(some 26), (.mov (.t 1)), none, []⟩, ⟨(some 27),
  (.mov (.t 8)), none, []⟩, ⟨(some 28), (.call (.c (.fn 111 [])) [(.t 26), (.t 27)]), none, []⟩, ⟨(some 29), (.call (.t 25) [(.t 28)]), none, []⟩, ⟨(some 30), (.call (.c (.fn 197 [])) [(.t 29)]), none, []⟩, ⟨(some 31), (.idx 1 (.t 23) (.t
  24)), none, []⟩, ⟨none, (.store none 1 (.t 31) (.t 30)), none, []⟩]))) (.region [⟨(some 32), (.bin .add (.t 20) (.c (.int .i64 1))), none, []⟩, ⟨(some 20), (.mov (.t 32)), none, []⟩]))))))) (.seq (.region [⟨(some 33), (.mov (.t 1)), none,
  []⟩, ⟨(some 34), (.lea 1 (.t 3)), none, []⟩, ⟨(some 35), (.load (some 80) none (.t 34)), none, []⟩, ⟨(some 36), (.lea 2 (.t 3)), none, []⟩, ⟨(some 37), (.load none none (.t 36)), none, []⟩, ⟨(some 38), (.call (.c (.fn 134 [])) [(.t 37)]),
  none, [80]⟩, ⟨(some 39), (.build [(.int .i64 0), (.int .i64 0), .nils, .nils] [(0, (1, (.t 33))), (1, (1, (.t 35))), (2, (1, (.t 38)))]), none, []⟩, ⟨(some 9), (.new 80 [(.int .i64 0), (.int .i64 0), .nils, .nils]), none, []⟩, ⟨none,
  (.store none 4 (.t 9) (.t 39)), none, []⟩]) (.seq (.seq (.region [⟨(some 40), (.lea 2 (.t 3)), none, []⟩, ⟨(some 41), (.load none none (.t 40)), none, []⟩, ⟨(some 42), (.len 1 (.t 41)), none, []⟩, ⟨(some 43), (.mov (.c (.int .i64 0))),
  none, []⟩]) (.block 2 (.loop (.seq (.region [⟨(some 44), (.bin .lss (.t 43) (.t 42)), none, []⟩]) (.seq (.cond (.t 44) .skip (.exit 2)) (.seq (.block 3 (.seq (.region [⟨(some 45), (.mov (.t 43)), none, []⟩, ⟨(some 10), (.mov (.t 45)),
  none, []⟩]) (.seq (.region [⟨(some 11), (.mov (.c .nils)), none, []⟩]) (.seq (.seq (.region [⟨(some 46), (.mov (.t 7)), none, []⟩, ⟨(some 47), (.len 1 (.t 46)), none, []⟩, ⟨(some 48), (.mov (.c (.int .i64 0))), none, []⟩]) (.block 4 (.loop
  (.seq (.region [⟨(some 49), (.bin .lss (.t 48) (.t 47)), none, []⟩]) (.seq (.cond (.t 49) .skip (.exit 4)) (.seq (.block 5 (.seq (.region [⟨(some 50), (.idx 1 (.t 46) (.t 48)), none, []⟩, ⟨(some 51), (.load none none (.t 50)), none, []⟩,
  ⟨(some 13), (.mov (.t 51)), none, []⟩]) (.seq (.region [⟨(some 52), (.mov (.t 10)), none, []⟩, ⟨(some 14), (.mov (.t 52)), none, []⟩]) (.seq (.seq (.region [⟨(some 53), (.mov (.t 13)), none, []⟩, ⟨(some 54), (.lea 0 (.t 3)), none, []⟩,
  ⟨(some 55), (.load none none (.t 54)), none, []⟩, ⟨(some 56), (.call (.c (.fn 110 [])) [(.t 55)]), none, []⟩, ⟨(some 57), (.bin .lss (.t 53) (.t 56)), none, []⟩]) (.cond (.t 57) (.region [⟨(some 58), (.lea 3 (.t 3)), none, []⟩, ⟨(some 59),
  (.load none none (.t 58)), none, []⟩, ⟨(some 60), (.mov (.t 10)), none, []⟩, ⟨(some 61), (.idx 1 (.t 59) (.t 60)), none, []⟩, ⟨(some 62), (.load none none (.t 61)), none, []⟩, ⟨(some 63), (.mov (.t 13)), none, []⟩, ⟨(some 64), (.idx 1 (.t
  62) (.t 63)), none, []⟩, ⟨(some 65), (.load none none (.t 64)), none, []⟩, ⟨(some 14), (.mov (.t 65)), none, []⟩]) .skip)) (.region [⟨(some 66), (.mov (.t 11)), none, []⟩, ⟨(some 67), (.mov (.t 14)), none, []⟩, ⟨(some 68), (.mk 3 1 [(.int
  .i64 0)] [(0, (1, (.t 67)))]), none, []⟩, ⟨(some 69), (.app 3 1 8 (.t 66) (.t 68)), none, []⟩, ⟨(some 11), (.mov (.t 69)), none, []⟩]))))) (.region [⟨(some 70), (.bin .add (.t 48) (.c (.int .i64 1))), none, []⟩, ⟨(some 48), (.mov (.t 70)),
  none, []⟩]))))))) (.region [⟨(some 71), (.lea 3 (.t 9)), none, []⟩, ⟨(some 72), (.load none none (.t 71)), none, []⟩, ⟨(some 73), (.mov (.t 11)), none, []⟩, ⟨(some 74), (.mk 84 1 [.nils] [(0, (1, (.t 73)))]), none, []⟩, ⟨(some 75), (.app
  84 1 24 (.t 72) (.t 74)), none, []⟩, ⟨(some 76), (.lea 3 (.t 9)), none, []⟩, ⟨none, (.store none 1 (.t 76) (.t 75)), none, []⟩]))))) (.region [⟨(some 77), (.bin .add (.t 43) (.c (.int .i64 1))), none, []⟩, ⟨(some 43), (.mov (.t 77)), none,
  []⟩]))))))) (.seq (.region [⟨(some 78), (.load none (some 4) (.t 9)), none, []⟩, ⟨none, (.store none 4 (.t 6) (.t 78)), none, []⟩]) .ret))))))⟩
theorem irOk144 : compFun Tryz.prog.underlying Tryz.prog.info? sq Tryz.f144 = some ir144 := by kernel_rfl
def ir145 : BFun := ⟨[(.tmp 3)], (.seq (.region [⟨(some 3), (.mov (.c .nils)), none, []⟩]) (.seq (.region [⟨(some 4), (.mov (.t 0)), none, []⟩, ⟨(some 5), (.load none none (.t 1)), none, []⟩, ⟨(some 6), (.load none none (.t 1)), none, []⟩,
  ⟨(some 7), (.bin .add (.t 6) (.c (.int .i64 1))), none, []⟩, ⟨(some 8), (.call (.c (.fn 146 [])) [(.t 4), (.t 5), (.t 7)]), none, []⟩, ⟨(some 3), (.mov (.t 8)), none, []⟩]) .ret))⟩
theorem irOk145 : compFun Tryz.prog.underlying Tryz.prog.info? sq Tryz.f145 = some ir145 := by kernel_rfl
def ir147 : BFun := ⟨[(.cell 6 (some 4)), (.tmp 7)], (.seq (.region [⟨(some 3), (.box 29 (.t 0)), none, []⟩, ⟨(some 4), (.box 29 (.t 1)), none, []⟩, ⟨(some 6), (.new 29 [(.int .i64 0), (.int .i64 0), .nils, .nils]), none, []⟩, ⟨(some 7),
  (.mov (.c (.int .i64 0))), none, []⟩]) (.seq (.seq (.region [⟨(some 11), (.load none (some 4) (.t 3)), none, []⟩, ⟨(some 12), (.load none (some 4) (.t 4)), none, []⟩, ⟨(some 13), (.call (.c (.fn 173 [])) [(.t 11), (.t 12)]), none, []⟩,
  ⟨(some 8), (.mov (.t 13)), none, []⟩]) (.seq (.region [⟨(some 14), (.mov (.t 8)), none, []⟩, ⟨(some 15), (.bin .neq (.t 14) (.c (.int .i64 0))), none, []⟩]) (.cond (.t 15) (.seq (.region [⟨(some 16), (.build [(.int .i64 0), (.int .i64 0),
  .nils, .nils] []), none, []⟩, ⟨(some 17), (.mov (.t 8)), none, []⟩, ⟨none, (.store none 4 (.t 6) (.t 16)), none, []⟩, ⟨(some 7), (.mov (.t 17)), none, []⟩]) .ret) .skip))) (.seq (.region [⟨(some 18), (.load none (some 4) (.t 3)), none,
  []⟩, ⟨(some 20), (.load (some 29) (some 4) (.t 4)), none, []⟩, ⟨(some 19), (.call (.c (.fn 75 [])) [(.t 18)]), none, [29]⟩, ⟨(some 21), (.call (.c (.fn 75 [])) [(.t 20)]), none, []⟩, ⟨(some 9), (.new 80 [(.int .i64 0), (.int .i64 0),
  .nils, .nils]), none, []⟩, ⟨(some 10), (.new 80 [(.int .i64 0), (.int .i64 0), .nils, .nils]), none, []⟩, ⟨none, (.store none 4 (.t 9) (.t 19)), none, []⟩, ⟨none, (.store none 4 (.t 10) (.t 21)), none, []⟩]) (.seq (.seq (.region [⟨(some
  22), (.lea 2 (.t 9)), none, []⟩, ⟨(some 23), (.load none none (.t 22)), none, []⟩, ⟨(some 24), (.len 1 (.t 23)), none, []⟩, ⟨(some 25), (.lea 2 (.t 10)), none, []⟩, ⟨(some 26), (.load none none (.t 25)), none, []⟩, ⟨(some 27), (.len 1 (.t
  26)), none, []⟩, ⟨(some 28), (.bin .mul (.t 24) (.t 27)), none, []⟩, ⟨(some 29), (.bin .gtr (.t 28) (.c (.int .i64 1000))), none, []⟩]) (.cond (.t 29) (.seq (.region [⟨(some 30), (.build [(.int .i64 0), (.int .i64 0), .nils, .nils] []),
  none, []⟩, ⟨none, (.store none 4 (.t 6) (.t 30)), none, []⟩, ⟨(some 7), (.mov (.c (.int .i64 3))), none, []⟩]) .ret) .skip)) (.seq (.region [⟨(some 31), (.load none (some 4) (.t 9)), none, []⟩, ⟨(some 32), (.load none (some 4) (.t 10)),
  none, []⟩, ⟨(some 33), (.mov (.t 2)), none, []⟩, ⟨(some 34), (.call (.c (.fn 174 [])) [(.t 31), (.t 32), (.t 33)]), none, []⟩, ⟨(some 35), (.call (.c (.fn 95 [])) [(.t 34)]), none, []⟩, ⟨(some 36), (.ext 0 (.t 35)), none, []⟩, ⟨(some 37),
  (.ext 1 (.t 35)), none, []⟩, ⟨none, (.store none 4 (.t 6) (.t 36)), none, []⟩, ⟨(some 7), (.mov (.t 37)), none, []⟩]) .ret)))))⟩
theorem irOk147 : compFun Tryz.prog.underlying Tryz.prog.info? sq Tryz.f147 = some ir147 := by kernel_rfl
def ir148 : BFun := ⟨[(.tmp 4)], (.seq (.region [⟨(some 4), (.mov (.c (.bool false))), none, []⟩]) (.seq (.region [⟨(some 5), (.mov (.t 0)), none, []⟩, ⟨(some 6), (.mov (.t 5)), none, []⟩, ⟨(some 7), (.mov (.t 1)), (some (6, true)), []⟩,
  ⟨(some 8), (.pick (.t 6) (.t 7) (.c (.bool false))), none, []⟩, ⟨(some 4), (.mov (.t 8)), none, []⟩]) .ret))⟩
theorem irOk148 : compFun Tryz.prog.underlying Tryz.prog.info? sq Tryz.f148 = some ir148 := by kernel_rfl
def ir156 : BFun := ⟨[(.cell 2 (some 4)), (.tmp 3)], (.seq (.region [⟨(some 1), (.box 80 (.t 0)), none, []⟩, ⟨(some 2), (.new 29 [(.int .i64 0), (.int .i64 0), .nils, .nils]), none, []⟩, ⟨(some 3), (.mov (.c (.int .i64 0))), none, []⟩])
  (.seq (.seq (.region [⟨(some 7), (.lea 2 (.t 1)), none, []⟩, ⟨(some 8), (.load none none (.t 7)), none, []⟩, ⟨(some 9), (.len 1 (.t 8)), none, []⟩, ⟨(some 10), (.bin .gtr (.t 9) (.c (.int .i64 150))), none, []⟩]) (.cond (.t 10) (.seq
  (.region [⟨(some 11), (.build [(.int .i64 0), (.int .i64 0), .nils, .nils] []), none, []⟩, ⟨none, (.store none 4 (.t 2) (.t 11)), none, []⟩, ⟨(some 3), (.mov (.c (.int .i64 3))), none, []⟩]) .ret) .skip)) (.seq (.region [⟨(some 12), (.lea
  0 (.t 1)), none, []⟩, ⟨(some 13), (.load (some 80) none (.t 12)), none, []⟩, ⟨(some 14), (.lea 1 (.t 1)), none, []⟩, ⟨(some 15), (.load (some 80) none (.t 14)), none, []⟩, ⟨(some 16), (.lea 2 (.t 1)), none, []⟩, ⟨(some 17), (.load none
  none (.t 16)), none, []⟩, ⟨(some 18), (.call (.c (.fn 134 [])) [(.t 17)]), none, [80]⟩, ⟨(some 19), (.build [(.int .i64 0), (.int .i64 0), .nils, .nils] [(0, (1, (.t 13))), (1, (1, (.t 15))), (2, (1, (.t 18)))]), none, []⟩, ⟨(some 4),
  (.new 29 [(.int .i64 0), (.int .i64 0), .nils, .nils]), none, []⟩, ⟨none, (.store none 4 (.t 4) (.t 19)), none, []⟩]) (.seq (.seq (.region [⟨(some 20), (.lea 3 (.t 1)), none, []⟩, ⟨(some 21), (.load none none (.t 20)), none, []⟩, ⟨(some
  22), (.len 1 (.t 21)), none, []⟩, ⟨(some 23), (.mov (.c (.int .i64 0))), none, []⟩]) (.block 0 (.loop (.seq (.region [⟨(some 24), (.bin .lss (.t 23) (.t 22)), none, []⟩]) (.seq (.cond (.t 24) .skip (.exit 0)) (.seq (.block 1 (.seq (.region
  [⟨(some 25), (.idx 1 (.t 21) (.t 23)), none, []⟩, ⟨(some 26), (.load none none (.t 25)), none, []⟩, ⟨(some 6), (.mov (.t 26)), none, []⟩]) (.region [⟨(some 27), (.lea 3 (.t 4)), none, []⟩, ⟨(some 28), (.load (some 29) none (.t 27)), none,
  []⟩, ⟨(some 29), (.mov (.t 6)), none, []⟩, ⟨(some 30), (.call (.c (.fn 200 [])) [(.t 29)]), none, [29]⟩, ⟨(some 31), (.mk 67 1 [.nils] [(0, (1, (.t 30)))]), none, []⟩, ⟨(some 32), (.app 67 1 24 (.t 28) (.t 31)), none, []⟩, ⟨(some 33),
  (.lea 3 (.t 4)), none, []⟩, ⟨none, (.store none 1 (.t 33) (.t 32)), none, []⟩]))) (.region [⟨(some 34), (.bin .add (.t 23) (.c (.int .i64 1))), none, []⟩, ⟨(some 23), (.mov (.t 34)), none, []⟩]))))))) (.seq (.region [⟨(some 35), (.load
  none (some 4) (.t 4)), none, []⟩, ⟨none, (.store none 4 (.t 2) (.t 35)), none, []⟩, ⟨(some 3), (.mov (.c (.int .i64 0))), none, []⟩]) .ret)))))⟩
theorem irOk156 : compFun Tryz.prog.underlying Tryz.prog.info? sq Tryz.f156 = some ir156 := by kernel_rfl
def ir158 : BFun := ⟨[(.tmp 4)], (.seq (.region [⟨(some 4), (.mov (.c (.int .i64 0))), none, []⟩]) (.seq (.region [⟨(some 5), (.mov (.t 0)), none, []⟩, ⟨(some 6), (.mov (.t 1)), none, []⟩, ⟨(some 7), (.call (.c (.fn 194 [])) [(.t 6)]), none,
  []⟩, ⟨(some 8), (.bin .quo (.t 5) (.t 7)), none, []⟩, ⟨(some 9), (.bin .rem (.t 8) (.c (.int .i64 3))), none, []⟩, ⟨(some 4), (.mov (.t 9)), none, []⟩]) .ret))⟩
theorem irOk158 : compFun Tryz.prog.underlying Tryz.prog.info? sq Tryz.f158 = some ir158 := by kernel_rfl
def ir159 : BFun := ⟨[(.cell 10 (some 4)), (.tmp 11)], (.seq (.region [⟨(some 10), (.new 80 [(.int .i64 0), (.int .i64 0), .nils, .nils]), none, []⟩, ⟨(some 11), (.mov (.c (.bool false))), none, []⟩]) (.seq (.region [⟨(some 22), (.mov (.t
  0)), none, []⟩, ⟨(some 23), (.build [(.int .i64 0), (.int .i64 0), .nils, .nils] [(0, (1, (.t 22)))]), none, []⟩, ⟨(some 12), (.new 80 [(.int .i64 0), (.int .i64 0), .nils, .nils]), none, []⟩, ⟨none, (.store none 4 (.t 12) (.t 23)), none,
  []⟩]) (.seq (.region [⟨(some 24), .mkmap, none, []⟩, ⟨(some 25), (.mov (.t 1)), none, []⟩, ⟨none, (.mset 0 (.t 24) (.t 25) (.c (.int .i64 0))), none, []⟩, ⟨(some 26), (.mov (.t 24)), none, []⟩, ⟨(some 13), (.mov (.t 26)), none, []⟩]) (.seq
  (.region [⟨(some 27), (.mov (.t 1)), none, []⟩, ⟨(some 28), (.mk 3 1 [(.int .i64 0)] [(0, (1, (.t 27)))]), none, []⟩, ⟨(some 14), (.mov (.t 28)), none, []⟩]) (.seq (.seq (.region [⟨(some 15), (.mov (.c (.int .i64 0))), none, []⟩]) (.block
  0 (.loop (.seq (.seq (.region [⟨(some 29), (.mov (.t 15)), none, []⟩, ⟨(some 30), (.mov (.t 14)), none, []⟩, ⟨(some 31), (.len 1 (.t 30)), none, []⟩, ⟨(some 32), (.bin .lss (.t 29) (.t 31)), none, []⟩]) (.cond (.t 32) .skip (.exit 0)))
  (.seq (.block 1 (.seq (.region [⟨(some 35), (.mov (.t 14)), none, []⟩, ⟨(some 36), (.mov (.t 15)), none, []⟩, ⟨(some 37), (.idx 1 (.t 35) (.t 36)), none, []⟩, ⟨(some 38), (.load none none (.t 37)), none, []⟩, ⟨(some 16), (.mov (.t 38)),
  none, []⟩]) (.seq (.region [⟨(some 17), (.mov (.c .nils)), none, []⟩]) (.seq (.seq (.region [⟨(some 18), (.mov (.c (.int .i64 0))), none, []⟩]) (.block 2 (.loop (.seq (.seq (.region [⟨(some 39), (.mov (.t 18)), none, []⟩, ⟨(some 40), (.mov
  (.t 0)), none, []⟩, ⟨(some 41), (.call (.c (.fn 110 [])) [(.t 40)]), none, []⟩, ⟨(some 42), (.bin .lss (.t 39) (.t 41)), none, []⟩]) (.cond (.t 42) .skip (.exit 2))) (.seq (.block 3 (.seq (.region [⟨(some 45), (.mov (.t 4)), none, []⟩,
  ⟨(some 46), (.mov (.t 16)), none, []⟩, ⟨(some 47), (.mov (.t 18)), none, []⟩, ⟨(some 48), (.call (.t 45) [(.t 46), (.t 47)]), none, []⟩, ⟨(some 19), (.mov (.t 48)), none, []⟩]) (.seq (.region [⟨(some 50), (.mov (.t 13)), none, []⟩, ⟨(some
  51), (.mov (.t 19)), none, []⟩, ⟨(some 52), (.look 0 true (.int .i64 0) (.t 50) (.t 51)), none, []⟩, ⟨(some 49), (.mov (.t 52)), none, []⟩, ⟨(some 53), (.ext 0 (.t 49)), none, []⟩, ⟨(some 54), (.ext 1 (.t 49)), none, []⟩, ⟨(some 20), (.mov
  (.t 53)), none, []⟩, ⟨(some 21), (.mov (.t 54)), none, []⟩]) (.seq (.seq (.region [⟨(some 55), (.mov (.t 21)), none, []⟩, ⟨(some 56), (.not (.t 55)), none, []⟩]) (.cond (.t 56) (.seq (.region [⟨(some 57), (.mov (.t 14)), none, []⟩, ⟨(some
  58), (.len 1 (.t 57)), none, []⟩, ⟨(some 20), (.mov (.t 58)), none, []⟩]) (.seq (.region [⟨(some 59), (.mov (.t 13)), none, []⟩, ⟨(some 60), (.mov (.t 19)), none, []⟩, ⟨(some 61), (.mov (.t 20)), none, []⟩, ⟨none, (.mset 0 (.t 59) (.t 60)
  (.t 61)), none, []⟩]) (.seq (.region [⟨(some 62), (.mov (.t 14)), none, []⟩, ⟨(some 63), (.mov (.t 19)), none, []⟩, ⟨(some 64), (.mk 3 1 [(.int .i64 0)] [(0, (1, (.t 63)))]), none, []⟩, ⟨(some 65), (.app 3 1 8 (.t 62) (.t 64)), none, []⟩,
  ⟨(some 14), (.mov (.t 65)), none, []⟩]) (.seq (.region [⟨(some 66), (.mov (.t 2)), none, []⟩, ⟨(some 67), (.bin .gtr (.t 66) (.c (.int .i64 0))), none, []⟩, ⟨(some 68), (.mov (.t 67)), none, []⟩, ⟨(some 69), (.mov (.t 14)), (some (68,
  true)), []⟩, ⟨(some 70), (.len 1 (.t 69)), (some (68, true)), []⟩, ⟨(some 71), (.mov (.t 2)), (some (68, true)), []⟩, ⟨(some 72), (.bin .gtr (.t 70) (.t 71)), (some (68, true)), []⟩, ⟨(some 73), (.pick (.t 68) (.t 72) (.c (.bool false))),
  none, []⟩]) (.cond (.t 73) (.seq (.region [⟨(some 74), (.build [(.int .i64 0), (.int .i64 0), .nils, .nils] []), none, []⟩, ⟨none, (.store none 4 (.t 10) (.t 74)), none, []⟩, ⟨(some 11), (.mov (.c (.bool false))), none, []⟩]) .ret)
  .skip))))) .skip)) (.region [⟨(some 75), (.mov (.t 17)), none, []⟩, ⟨(some 76), (.mov (.t 20)), none, []⟩, ⟨(some 77), (.mk 3 1 [(.int .i64 0)] [(0, (1, (.t 76)))]), none, []⟩, ⟨(some 78), (.app 3 1 8 (.t 75) (.t 77)), none, []⟩, ⟨(some
  17), (.mov (.t 78)), none, []⟩]))))) (.region [⟨(some 43), (.mov (.t 18)), none, []⟩, ⟨(some 44), (.bin .add (.t 43) (.c (.int .i64 1))), none, []⟩, ⟨(some 18), (.mov (.t 44)), none, []⟩])))))) (.seq (.region [⟨(some 79), (.lea 2 (.t 12)),
  none, []⟩, ⟨(some 80), (.load (some 80) none (.t 79)), none, []⟩, ⟨(some 81), (.mov (.t 3)), none, []⟩, ⟨(some 82), (.mov (.t 16)), none, []⟩, ⟨(some 83), (.call (.t 81) [(.t 82)]), none, [80]⟩, ⟨(some 84), (.mk 4 1 [(.bool false)] [(0,
  (1, (.t 83)))]), none, []⟩, ⟨(some 85), (.app 4 1 1 (.t 80) (.t 84)), none, []⟩, ⟨(some 86), (.lea 2 (.t 12)), none, []⟩, ⟨none, (.store none 1 (.t 86) (.t 85)), none, []⟩]) (.region [⟨(some 87), (.lea 3 (.t 12)), none, []⟩, ⟨(some 88),
  (.load none none (.t 87)), none, []⟩, ⟨(some 89), (.mov (.t 17)), none, []⟩, ⟨(some 90), (.mk 84 1 [.nils] [(0, (1, (.t 89)))]), none, []⟩, ⟨(some 91), (.app 84 1 24 (.t 88) (.t 90)), none, []⟩, ⟨(some 92), (.lea 3 (.t 12)), none, []⟩,
  ⟨none, (.store none 1 (.t 92) (.t 91)), none, []⟩])))))) (.region [⟨(some 33), (.mov (.t 15)), none, []⟩, ⟨(some 34), (.bin .add (.t 33) (.c (.int .i64 1))), none, []⟩, ⟨(some 15), (.mov (.t 34)), none, []⟩])))))) (.seq (.region [⟨(some
  93), (.load none (some 4) (.t 12)), none, []⟩, ⟨none, (.store none 4 (.t 10) (.t 93)), none, []⟩, ⟨(some 11), (.mov (.c (.bool true))), none, []⟩]) .ret))))))⟩
theorem irOk159 : compFun Tryz.prog.underlying Tryz.prog.info? sq Tryz.f159 = some ir159 := by kernel_rfl
def ir162 : BFun := ⟨[(.tmp 4)], (.seq (.region [⟨(some 4), (.mov (.c (.int .i64 0))), none, []⟩]) (.seq (.region [⟨(some 5), (.mov (.c (.int .i64 0))), none, []⟩]) (.seq (.seq (.region [⟨(some 6), (.mov (.c (.int .i64 0))), none, []⟩])
  (.block 0 (.loop (.seq (.seq (.region [⟨(some 7), (.mov (.t 6)), none, []⟩, ⟨(some 8), (.mov (.t 0)), none, []⟩, ⟨(some 9), (.len 1 (.t 8)), none, []⟩, ⟨(some 10), (.bin .lss (.t 7) (.t 9)), none, []⟩]) (.cond (.t 10) .skip (.exit 0)))
  (.seq (.block 1 (.seq (.region [⟨(some 13), (.mov (.t 1)), none, []⟩, ⟨(some 14), (.mov (.t 6)), none, []⟩, ⟨(some 15), (.call (.c (.fn 158 [])) [(.t 13), (.t 14)]), none, []⟩, ⟨(some 16), (.bin .eql (.t 15) (.c (.int .i64 1))), none,
  []⟩]) (.cond (.t 16) (.region [⟨(some 17), (.mov (.t 5)), none, []⟩, ⟨(some 18), (.mov (.t 0)), none, []⟩, ⟨(some 19), (.mov (.t 6)), none, []⟩, ⟨(some 20), (.idx 1 (.t 18) (.t 19)), none, []⟩, ⟨(some 21), (.load none none (.t 20)), none,
  []⟩, ⟨(some 22), (.bin .add (.t 17) (.t 21)), none, []⟩, ⟨(some 5), (.mov (.t 22)), none, []⟩]) .skip))) (.region [⟨(some 11), (.mov (.t 6)), none, []⟩, ⟨(some 12), (.bin .add (.t 11) (.c (.int .i64 1))), none, []⟩, ⟨(some 6), (.mov (.t
  12)), none, []⟩])))))) (.seq (.region [⟨(some 23), (.mov (.t 5)), none, []⟩, ⟨(some 4), (.mov (.t 23)), none, []⟩]) .ret))))⟩
theorem irOk162 : compFun Tryz.prog.underlying Tryz.prog.info? sq Tryz.f162 = some ir162 := by kernel_rfl
def ir163 : BFun := ⟨[(.cell 2 (some 4)), (.tmp 3)], (.seq (.region [⟨(some 1), (.box 29 (.t 0)), none, []⟩, ⟨(some 2), (.new 29 [(.int .i64 0), (.int .i64 0), .nils, .nils]), none, []⟩, ⟨(some 3), (.mov (.c (.int .i64 0))), none, []⟩])
  (.seq (.seq (.region [⟨(some 4), (.call (.c (.fn 42 [])) [(.t 1)]), none, []⟩, ⟨(some 5), (.not (.t 4)), none, []⟩]) (.cond (.t 5) (.seq (.region [⟨(some 6), (.build [(.int .i64 0), (.int .i64 0), .nils, .nils] []), none, []⟩, ⟨none,
  (.store none 4 (.t 2) (.t 6)), none, []⟩, ⟨(some 3), (.mov (.c (.int .i64 1))), none, []⟩]) .ret) .skip)) (.seq (.region [⟨(some 7), (.call (.c (.fn 67 [])) [(.t 1)]), none, []⟩, ⟨(some 8), (.call (.c (.fn 86 [])) [(.t 7)]), none, []⟩,
  ⟨(some 9), (.ext 0 (.t 8)), none, []⟩, ⟨(some 10), (.ext 1 (.t 8)), none, []⟩, ⟨none, (.store none 4 (.t 2) (.t 9)), none, []⟩, ⟨(some 3), (.mov (.t 10)), none, []⟩]) .ret)))⟩
theorem irOk163 : compFun Tryz.prog.underlying Tryz.prog.info? sq Tryz.f163 = some ir163 := by kernel_rfl
def ir164 : BFun := ⟨[(.cell 4 (some 4)), (.tmp 5)], (.seq (.region [⟨(some 2), (.box 29 (.t 0)), none, []⟩, ⟨(some 3), (.box 29 (.t 1)), none, []⟩, ⟨(some 4), (.new 29 [(.int .i64 0), (.int .i64 0), .nils, .nils]), none, []⟩, ⟨(some 5),
  (.mov (.c (.int .i64 0))), none, []⟩]) (.seq (.seq (.region [⟨(some 10), (.call (.c (.fn 42 [])) [(.t 2)]), none, []⟩, ⟨(some 11), (.not (.t 10)), none, []⟩, ⟨(some 12), (.mov (.t 11)), none, []⟩, ⟨(some 13), (.call (.c (.fn 42 [])) [(.t
  3)]), (some (12, false)), []⟩, ⟨(some 14), (.not (.t 13)), (some (12, false)), []⟩, ⟨(some 15), (.pick (.t 12) (.c (.bool true)) (.t 14)), none, []⟩]) (.cond (.t 15) (.seq (.region [⟨(some 16), (.build [(.int .i64 0), (.int .i64 0), .nils,
  .nils] []), none, []⟩, ⟨none, (.store none 4 (.t 4) (.t 16)), none, []⟩, ⟨(some 5), (.mov (.c (.int .i64 1))), none, []⟩]) .ret) .skip)) (.seq (.seq (.region [⟨(some 17), (.lea 0 (.t 2)), none, []⟩, ⟨(some 18), (.load none none (.t 17)),
  none, []⟩, ⟨(some 19), (.lea 0 (.t 3)), none, []⟩, ⟨(some 20), (.load none none (.t 19)), none, []⟩, ⟨(some 21), (.bin .add (.t 18) (.t 20)), none, []⟩, ⟨(some 22), (.bin .gtr (.t 21) (.c (.int .i64 3))), none, []⟩]) (.cond (.t 22) (.seq
  (.region [⟨(some 23), (.build [(.int .i64 0), (.int .i64 0), .nils, .nils] []), none, []⟩, ⟨none, (.store none 4 (.t 4) (.t 23)), none, []⟩, ⟨(some 5), (.mov (.c (.int .i64 2))), none, []⟩]) .ret) .skip)) (.seq (.region [⟨(some 24), (.call
  (.c (.fn 67 [])) [(.t 2)]), none, []⟩, ⟨(some 6), (.new 29 [(.int .i64 0), (.int .i64 0), .nils, .nils]), none, []⟩, ⟨none, (.store none 4 (.t 6) (.t 24)), none, []⟩]) (.seq (.seq (.region [⟨(some 7), (.mov (.c (.int .i64 0))), none, []⟩])
  (.block 0 (.loop (.seq (.seq (.region [⟨(some 25), (.mov (.t 7)), none, []⟩, ⟨(some 26), (.lea 0 (.t 3)), none, []⟩, ⟨(some 27), (.load none none (.t 26)), none, []⟩, ⟨(some 28), (.bin .lss (.t 25) (.t 27)), none, []⟩]) (.cond (.t 28)
  .skip (.exit 0))) (.seq (.block 1 (.region [⟨(some 31), (.lea 0 (.t 6)), none, []⟩, ⟨(some 32), (.load none none (.t 31)), none, []⟩, ⟨(some 33), (.call (.c (.fn 87 [])) [(.t 6), (.t 32)]), none, []⟩, ⟨none, (.store none 4 (.t 6) (.t 33)),
  none, []⟩])) (.region [⟨(some 29), (.mov (.t 7)), none, []⟩, ⟨(some 30), (.bin .add (.t 29) (.c (.int .i64 1))), none, []⟩, ⟨(some 7), (.mov (.t 30)), none, []⟩])))))) (.seq (.region [⟨(some 34), (.call (.c (.fn 67 [])) [(.t 3)]), none,
  []⟩, ⟨(some 8), (.new 29 [(.int .i64 0), (.int .i64 0), .nils, .nils]), none, []⟩, ⟨none, (.store none 4 (.t 8) (.t 34)), none, []⟩]) (.seq (.seq (.region [⟨(some 9), (.mov (.c (.int .i64 0))), none, []⟩]) (.block 2 (.loop (.seq (.seq
  (.region [⟨(some 35), (.mov (.t 9)), none, []⟩, ⟨(some 36), (.lea 0 (.t 2)), none, []⟩, ⟨(some 37), (.load none none (.t 36)), none, []⟩, ⟨(some 38), (.bin .lss (.t 35) (.t 37)), none, []⟩]) (.cond (.t 38) .skip (.exit 2))) (.seq (.block 3
  (.region [⟨(some 41), (.call (.c (.fn 87 [])) [(.t 8), (.c (.int .i64 0))]), none, []⟩, ⟨none, (.store none 4 (.t 8) (.t 41)), none, []⟩])) (.region [⟨(some 39), (.mov (.t 9)), none, []⟩, ⟨(some 40), (.bin .add (.t 39) (.c (.int .i64 1))),
  none, []⟩, ⟨(some 9), (.mov (.t 40)), none, []⟩])))))) (.seq (.region [⟨(some 42), (.call (.c (.fn 139 [])) [(.t 6), (.t 8), (.c (.int .i64 1))]), none, []⟩, ⟨(some 43), (.ext 0 (.t 42)), none, []⟩, ⟨(some 44), (.ext 1 (.t 42)), none, []⟩,
  ⟨none, (.store none 4 (.t 4) (.t 43)), none, []⟩, ⟨(some 5), (.mov (.t 44)), none, []⟩]) .ret))))))))⟩
theorem irOk164 : compFun Tryz.prog.underlying Tryz.prog.info? sq Tryz.f164 = some ir164 := by kernel_rfl
def ir167 : BFun := ⟨[(.tmp 2)], (.seq (.region [⟨(some 2), (.mov (.c (.int .i64 0))), none, []⟩]) (.seq (.region [⟨(some 3), (.mov (.c (.int .i64 1))), none, []⟩]) (.seq (.block 0 (.loop (.seq (.seq (.region [⟨(some 4), (.mov (.t 0)), none,
  []⟩, ⟨(some 5), (.bin .gtr (.t 4) (.c (.int .i64 0))), none, []⟩]) (.cond (.t 5) .skip (.exit 0))) (.seq (.block 1 (.region [⟨(some 8), (.mov (.t 3)), none, []⟩, ⟨(some 9), (.bin .mul (.t 8) (.c (.int .i64 3))), none, []⟩, ⟨(some 3), (.mov
  (.t 9)), none, []⟩])) (.region [⟨(some 6), (.mov (.t 0)), none, []⟩, ⟨(some 7), (.bin .sub (.t 6) (.c (.int .i64 1))), none, []⟩, ⟨(some 0), (.mov (.t 7)), none, []⟩]))))) (.seq (.region [⟨(some 10), (.mov (.t 3)), none, []⟩, ⟨(some 2),
  (.mov (.t 10)), none, []⟩]) .ret))))⟩
theorem irOk167 : compFun Tryz.prog.underlying Tryz.prog.info? sq Tryz.f167 = some ir167 := by kernel_rfl
def ir168 : BFun := ⟨[(.cell 4 (some 5))], (.seq (.region [⟨(some 2), (.box 29 (.t 0)), none, []⟩, ⟨(some 4), (.new 101 [(.int .i64 0), (.int .i64 0), .nils, .nils, .nils]), none, []⟩]) (.seq (.region [⟨(some 5), (.load none (some 4) (.t
  2)), none, []⟩, ⟨(some 6), (.mov (.t 1)), none, []⟩, ⟨(some 7), (.build [(.int .i64 0), (.int .i64 0), .nils, .nils, .nils] [(0, (4, (.t 5))), (4, (1, (.t 6)))]), none, []⟩, ⟨none, (.store none 5 (.t 4) (.t 7)), none, []⟩]) .ret))⟩
theorem irOk168 : compFun Tryz.prog.underlying Tryz.prog.info? sq Tryz.f168 = some ir168 := by kernel_rfl
def ir169 : BFun := ⟨[(.cell 4 (some 4)), (.tmp 5)], (.seq (.region [⟨(some 2), (.box 150 (.t 0)), none, []⟩, ⟨(some 4), (.new 29 [(.int .i64 0), (.int .i64 0), .nils, .nils]), none, []⟩, ⟨(some 5), (.mov (.c (.int .i64 0))), none, []⟩])
  (.seq (.region [⟨(some 11), (.lea 0 (.t 2)), none, []⟩, ⟨(some 12), (.lea 0 (.t 11)), none, []⟩, ⟨(some 13), (.load none (some 4) (.t 12)), none, []⟩, ⟨(some 6), (.new 29 [(.int .i64 0), (.int .i64 0), .nils, .nils]), none, []⟩, ⟨none,
  (.store none 4 (.t 6) (.t 13)), none, []⟩]) (.seq (.region [⟨(some 14), (.load none (some 4) (.t 6)), none, []⟩, ⟨(some 7), (.new 29 [(.int .i64 0), (.int .i64 0), .nils, .nils]), none, []⟩, ⟨none, (.store none 4 (.t 7) (.t 14)), none,
  []⟩]) (.seq (.seq (.region [⟨(some 8), (.mov (.c (.int .i64 1))), none, []⟩]) (.block 0 (.loop (.seq (.seq (.region [⟨(some 15), (.mov (.t 8)), none, []⟩, ⟨(some 16), (.mov (.t 1)), none, []⟩, ⟨(some 17), (.len 0 (.t 16)), none, []⟩,
  ⟨(some 18), (.bin .lss (.t 15) (.t 17)), none, []⟩]) (.cond (.t 18) .skip (.exit 0))) (.seq (.block 1 (.seq (.region [⟨(some 22), (.load none (some 4) (.t 6)), none, []⟩, ⟨(some 23), (.load none (some 4) (.t 7)), none, []⟩, ⟨(some 24),
  (.call (.c (.fn 202 [])) [(.t 22), (.t 23)]), none, []⟩, ⟨(some 21), (.mov (.t 24)), none, []⟩, ⟨(some 25), (.ext 0 (.t 21)), none, []⟩, ⟨(some 26), (.ext 1 (.t 21)), none, []⟩, ⟨(some 9), (.new 29 [(.int .i64 0), (.int .i64 0), .nils,
  .nils]), none, []⟩, ⟨none, (.store none 4 (.t 9) (.t 25)), none, []⟩, ⟨(some 10), (.mov (.t 26)), none, []⟩]) (.seq (.seq (.region [⟨(some 27), (.mov (.t 10)), none, []⟩, ⟨(some 28), (.bin .neq (.t 27) (.c (.int .i64 0))), none, []⟩])
  (.cond (.t 28) (.seq (.region [⟨(some 29), (.build [(.int .i64 0), (.int .i64 0), .nils, .nils] []), none, []⟩, ⟨(some 30), (.mov (.t 10)), none, []⟩, ⟨none, (.store none 4 (.t 4) (.t 29)), none, []⟩, ⟨(some 5), (.mov (.t 30)), none, []⟩])
  .ret) .skip)) (.region [⟨(some 31), (.load none (some 4) (.t 9)), none, []⟩, ⟨none, (.store none 4 (.t 7) (.t 31)), none, []⟩])))) (.region [⟨(some 19), (.mov (.t 8)), none, []⟩, ⟨(some 20), (.bin .add (.t 19) (.c (.int .i64 1))), none,
  []⟩, ⟨(some 8), (.mov (.t 20)), none, []⟩])))))) (.seq (.region [⟨(some 32), (.load none (some 4) (.t 7)), none, []⟩, ⟨none, (.store none 4 (.t 4) (.t 32)), none, []⟩, ⟨(some 5), (.mov (.c (.int .i64 0))), none, []⟩]) .ret)))))⟩
theorem irOk169 : compFun Tryz.prog.underlying Tryz.prog.info? sq Tryz.f169 = some ir169 := by kernel_rfl
def ir170 : BFun := ⟨[(.tmp 6)], (.seq (.region [⟨(some 6), (.mov (.c (.int .i64 0))), none, []⟩]) (.seq (.seq (.region [⟨(some 7), (.mov (.c (.int .i64 0))), none, []⟩]) (.block 0 (.loop (.seq (.seq (.region [⟨(some 9), (.mov (.t 7)), none,
  []⟩, ⟨(some 10), (.mov (.t 0)), none, []⟩, ⟨(some 11), (.bin .lss (.t 9) (.t 10)), none, []⟩]) (.cond (.t 11) .skip (.exit 0))) (.seq (.block 1 (.seq (.region [⟨(some 14), (.mov (.t 2)), none, []⟩, ⟨(some 15), (.mov (.t 7)), none, []⟩,
  ⟨(some 16), (.call (.c (.fn 158 [])) [(.t 14), (.t 15)]), none, []⟩, ⟨(some 17), (.bin .eql (.t 16) (.c (.int .i64 2))), none, []⟩, ⟨(some 8), (.mov (.t 17)), none, []⟩]) (.seq (.seq (.region [⟨(some 18), (.mov (.t 8)), none, []⟩, ⟨(some
  19), (.not (.t 18)), none, []⟩, ⟨(some 20), (.mov (.t 19)), none, []⟩, ⟨(some 21), (.mov (.t 1)), (some (20, true)), []⟩, ⟨(some 22), (.mov (.t 7)), (some (20, true)), []⟩, ⟨(some 23), (.conv .u64 (.t 22)), (some (20, true)), []⟩, ⟨(some
  24), (.bin .shr (.t 21) (.t 23)), (some (20, true)), []⟩, ⟨(some 25), (.bin .and (.t 24) (.c (.int .i64 1))), (some (20, true)), []⟩, ⟨(some 26), (.bin .eql (.t 25) (.c (.int .i64 1))), (some (20, true)), []⟩, ⟨(some 27), (.pick (.t 20)
  (.t 26) (.c (.bool false))), none, []⟩]) (.cond (.t 27) (.seq (.region [⟨(some 6), (.mov (.c (.int .i64 (-1)))), none, []⟩]) .ret) .skip)) (.seq (.region [⟨(some 28), (.mov (.t 8)), none, []⟩]) (.cond (.t 28) (.region [⟨(some 29), (.mov
  (.t 1)), none, []⟩, ⟨(some 30), (.mov (.t 7)), none, []⟩, ⟨(some 31), (.conv .u64 (.t 30)), none, []⟩, ⟨(some 32), (.bin .shl (.c (.int .i64 1)) (.t 31)), none, []⟩, ⟨(some 33), (.bin .or (.t 29) (.t 32)), none, []⟩, ⟨(some 1), (.mov (.t
  33)), none, []⟩]) .skip))))) (.region [⟨(some 12), (.mov (.t 7)), none, []⟩, ⟨(some 13), (.bin .add (.t 12) (.c (.int .i64 1))), none, []⟩, ⟨(some 7), (.mov (.t 13)), none, []⟩])))))) (.seq (.region [⟨(some 34), (.mov (.t 1)), none, []⟩,
  ⟨(some 6), (.mov (.t 34)), none, []⟩]) .ret)))⟩
theorem irOk170 : compFun Tryz.prog.underlying Tryz.prog.info? sq Tryz.f170 = some ir170 := by kernel_rfl
def ir171 : BFun := ⟨[(.tmp 8)], (.seq (.region [⟨(some 8), (.mov (.c (.bool false))), none, []⟩]) (.seq (.seq (.region [⟨(some 9), (.mov (.c (.int .i64 0))), none, []⟩]) (.block 0 (.loop (.seq (.seq (.region [⟨(some 10), (.mov (.t 9)),
  none, []⟩, ⟨(some 11), (.mov (.t 0)), none, []⟩, ⟨(some 12), (.nilck (.t 11)), none, []⟩, ⟨(some 13), (.lea 3 (.t 12)), none, []⟩, ⟨(some 14), (.load none none (.t 13)), none, []⟩, ⟨(some 15), (.mov (.t 2)), none, []⟩, ⟨(some 16), (.idx 1
  (.t 14) (.t 15)), none, []⟩, ⟨(some 17), (.load none none (.t 16)), none, []⟩, ⟨(some 18), (.len 1 (.t 17)), none, []⟩, ⟨(some 19), (.bin .lss (.t 10) (.t 18)), none, []⟩]) (.cond (.t 19) .skip (.exit 0))) (.seq (.block 1 (.seq (.region
  [⟨(some 22), (.mov (.t 1)), none, []⟩, ⟨(some 23), (.mov (.t 0)), none, []⟩, ⟨(some 24), (.nilck (.t 23)), none, []⟩, ⟨(some 25), (.lea 3 (.t 24)), none, []⟩, ⟨(some 26), (.load none none (.t 25)), none, []⟩, ⟨(some 27), (.mov (.t 2)),
  none, []⟩, ⟨(some 28), (.idx 1 (.t 26) (.t 27)), none, []⟩, ⟨(some 29), (.load none none (.t 28)), none, []⟩, ⟨(some 30), (.mov (.t 9)), none, []⟩, ⟨(some 31), (.idx 1 (.t 29) (.t 30)), none, []⟩, ⟨(some 32), (.load none none (.t 31)),
  none, []⟩, ⟨(some 33), (.idx 1 (.t 22) (.t 32)), none, []⟩, ⟨(some 34), (.load none none (.t 33)), none, []⟩, ⟨(some 35), (.mov (.t 1)), none, []⟩, ⟨(some 36), (.mov (.t 0)), none, []⟩, ⟨(some 37), (.nilck (.t 36)), none, []⟩, ⟨(some 38),
  (.lea 3 (.t 37)), none, []⟩, ⟨(some 39), (.load none none (.t 38)), none, []⟩, ⟨(some 40), (.mov (.t 3)), none, []⟩, ⟨(some 41), (.idx 1 (.t 39) (.t 40)), none, []⟩, ⟨(some 42), (.load none none (.t 41)), none, []⟩, ⟨(some 43), (.mov (.t
  9)), none, []⟩, ⟨(some 44), (.idx 1 (.t 42) (.t 43)), none, []⟩, ⟨(some 45), (.load none none (.t 44)), none, []⟩, ⟨(some 46), (.idx 1 (.t 35) (.t 45)), none, []⟩, ⟨(some 47), (.load none none (.t 46)), none, []⟩, ⟨(some 48), (.bin .neq
  (.t 34) (.t 47)), none, []⟩]) (.cond (.t 48) (.seq (.region [⟨(some 8), (.mov (.c (.bool false))), none, []⟩]) .ret) .skip))) (.region [⟨(some 20), (.mov (.t 9)), none, []⟩, ⟨(some 21), (.bin .add (.t 20) (.c (.int .i64 1))), none, []⟩,
  ⟨(some 9), (.mov (.t 21)), none, []⟩])))))) (.seq (.region [⟨(some 8), (.mov (.c (.bool true))), none, []⟩]) .ret)))⟩
theorem irOk171 : compFun Tryz.prog.underlying Tryz.prog.info? sq Tryz.f171 = some ir171 := by kernel_rfl
def ir173 : BFun := ⟨[(.tmp 4)], (.seq (.region [⟨(some 2), (.box 29 (.t 0)), none, []⟩, ⟨(some 3), (.box 29 (.t 1)), none, []⟩, ⟨(some 4), (.mov (.c (.int .i64 0))), none, []⟩]) (.seq (.block 0 (.seq (.region [⟨(some 6), (.load none (some
  4) (.t 2)), none, []⟩, ⟨(some 7), (.call (.c (.fn 73 [])) [(.t 6)]), none, []⟩, ⟨(some 8), (.not (.t 7)), none, []⟩, ⟨(some 9), (.mov (.t 8)), none, []⟩, ⟨(some 10), (.load none (some 4) (.t 3)), (some (9, false)), []⟩, ⟨(some 11), (.call
  (.c (.fn 73 [])) [(.t 10)]), (some (9, false)), []⟩, ⟨(some 12), (.not (.t 11)), (some (9, false)), []⟩, ⟨(some 13), (.pick (.t 9) (.c (.bool true)) (.t 12)), none, []⟩, ⟨(some 5), (.mov (.t 13)), none, []⟩]) (.cond (.t 5) (.seq (.region
  [⟨(some 4), (.mov (.c (.int .i64 1))), none, []⟩]) .ret) (.seq (.region [⟨(some 15), (.lea 0 (.t 2)), none, []⟩, ⟨(some 16), (.load none none (.t 15)), none, []⟩, ⟨(some 17), (.lea 0 (.t 3)), none, []⟩, ⟨(some 18), (.load none none (.t
  17)), none, []⟩, ⟨(some 19), (.bin .neq (.t 16) (.t 18)), none, []⟩, ⟨(some 14), (.mov (.t 19)), none, []⟩]) (.cond (.t 14) (.seq (.region [⟨(some 4), (.mov (.c (.int .i64 2))), none, []⟩]) .ret) .skip))))) (.seq (.region [⟨(some 4), (.mov
  (.c (.int .i64 0))), none, []⟩]) .ret)))⟩
theorem irOk173 : compFun Tryz.prog.underlying Tryz.prog.info? sq Tryz.f173 = some ir173 := by kernel_rfl
def ir174 : BFun := ⟨[(.cell 6 (some 4))], (.seq (.region [⟨(some 3), (.box 80 (.t 0)), none, []⟩, ⟨(some 4), (.box 80 (.t 1)), none, []⟩, ⟨(some 5), (.box 134 (.t 2)), none, []⟩, ⟨(some 6), (.new 80 [(.int .i64 0), (.int .i64 0), .nils,
  .nils]), none, []⟩]) (.seq (.region [⟨(some 10), (.lea 0 (.t 3)), none, []⟩, ⟨(some 11), (.load none none (.t 10)), none, []⟩, ⟨(some 12), (.lea 1 (.t 3)), none, []⟩, ⟨(some 13), (.load none none (.t 12)), none, []⟩, ⟨(some 14), (.lea 1
  (.t 4)), none, []⟩, ⟨(some 15), (.load none none (.t 14)), none, []⟩, ⟨(some 16), (.build [(.int .i64 0), (.int .i64 0)] [(0, (1, (.t 13))), (1, (1, (.t 15)))]), none, []⟩, ⟨(some 17), (.mkfn 204 [(.t 5), (.t 3), (.t 4)]), none, []⟩,
  ⟨(some 18), (.mkfn 205 [(.t 3), (.t 4)]), none, []⟩, ⟨(some 19), (.call (.c (.fn 203 [])) [(.t 11), (.t 16), (.c (.int .i64 0)), (.t 17), (.t 18)]), none, []⟩, ⟨(some 9), (.mov (.t 19)), none, []⟩, ⟨(some 20), (.ext 0 (.t 9)), none, []⟩,
  ⟨(some 21), (.ext 1 (.t 9)), none, []⟩, ⟨(some 7), (.new 80 [(.int .i64 0), (.int .i64 0), .nils, .nils]), none, []⟩, ⟨none, (.store none 4 (.t 7) (.t 20)), none, []⟩, ⟨(some 8), (.mov (.t 21)), none, []⟩]) (.seq (.region [⟨(some 22),
  (.load none (some 4) (.t 7)), none, []⟩, ⟨none, (.store none 4 (.t 6) (.t 22)), none, []⟩]) .ret)))⟩
theorem irOk174 : compFun Tryz.prog.underlying Tryz.prog.info? sq Tryz.f174 = some ir174 := by kernel_rfl
def ir176 : BFun := ⟨[(.tmp 2)], (.seq (.region [⟨(some 2), (.mov (.c (.bool false))), none, []⟩]) (.seq (.region [⟨(some 3), (.mov (.t 0)), none, []⟩, ⟨(some 4), (.bin .eql (.t 3) (.c (.int .i64 1))), none, []⟩, ⟨(some 2), (.mov (.t 4)),
  none, []⟩]) .ret))⟩
theorem irOk176 : compFun Tryz.prog.underlying Tryz.prog.info? sq Tryz.f176 = some ir176 := by kernel_rfl
def ir177 : BFun := ⟨[(.tmp 4)], (.seq (.region [⟨(some 4), (.mov (.c (.int .i64 0))), none, []⟩]) (.seq (.region [⟨(some 5), (.mov (.t 1)), none, []⟩, ⟨(some 4), (.mov (.t 5)), none, []⟩]) .ret))⟩
theorem irOk177 : compFun Tryz.prog.underlying Tryz.prog.info? sq Tryz.f177 = some ir177 := by kernel_rfl
def ir178 : BFun := ⟨[(.cell 10 (some 4)), (.tmp 11)], (.seq (.region [⟨(some 6), (.box 157 (.t 1)), none, []⟩, ⟨(some 10), (.new 80 [(.int .i64 0), (.int .i64 0), .nils, .nils]), none, []⟩, ⟨(some 11), (.mov (.c (.bool false))), none, []⟩])
  (.seq (.region [⟨(some 22), (.mov (.t 0)), none, []⟩, ⟨(some 23), (.build [(.int .i64 0), (.int .i64 0), .nils, .nils] [(0, (1, (.t 22)))]), none, []⟩, ⟨(some 12), (.new 80 [(.int .i64 0), (.int .i64 0), .nils, .nils]), none, []⟩, ⟨none,
  (.store none 4 (.t 12) (.t 23)), none, []⟩]) (.seq (.region [⟨(some 24), .mkmap, none, []⟩, ⟨(some 25), (.load none (some 2) (.t 6)), none, []⟩, ⟨none, (.mset 5 (.t 24) (.t 25) (.c (.int .i64 0))), none, []⟩, ⟨(some 26), (.mov (.t 24)),
  none, []⟩, ⟨(some 13), (.mov (.t 26)), none, []⟩]) (.seq (.region [⟨(some 27), (.load none (some 2) (.t 6)), none, []⟩, ⟨(some 28), (.mk 157 1 [(.int .i64 0), (.int .i64 0)] [(0, (2, (.t 27)))]), none, []⟩, ⟨(some 14), (.mov (.t 28)),
  none, []⟩]) (.seq (.seq (.region [⟨(some 15), (.mov (.c (.int .i64 0))), none, []⟩]) (.block 0 (.loop (.seq (.seq (.region [⟨(some 29), (.mov (.t 15)), none, []⟩, ⟨(some 30), (.mov (.t 14)), none, []⟩, ⟨(some 31), (.len 1 (.t 30)), none,
  []⟩, ⟨(some 32), (.bin .lss (.t 29) (.t 31)), none, []⟩]) (.cond (.t 32) .skip (.exit 0))) (.seq (.block 1 (.seq (.region [⟨(some 35), (.mov (.t 14)), none, []⟩, ⟨(some 36), (.mov (.t 15)), none, []⟩, ⟨(some 37), (.idx 2 (.t 35) (.t 36)),
  none, []⟩, ⟨(some 38), (.load none (some 2) (.t 37)), none, []⟩, ⟨(some 16), (.new 157 [(.int .i64 0), (.int .i64 0)]), none, []⟩, ⟨none, (.store none 2 (.t 16) (.t 38)), none, []⟩]) (.seq (.region [⟨(some 17), (.mov (.c .nils)), none,
  []⟩]) (.seq (.seq (.region [⟨(some 18), (.mov (.c (.int .i64 0))), none, []⟩]) (.block 2 (.loop (.seq (.seq (.region [⟨(some 39), (.mov (.t 18)), none, []⟩, ⟨(some 40), (.mov (.t 0)), none, []⟩, ⟨(some 41), (.call (.c (.fn 110 [])) [(.t
  40)]), none, []⟩, ⟨(some 42), (.bin .lss (.t 39) (.t 41)), none, []⟩]) (.cond (.t 42) .skip (.exit 2))) (.seq (.block 3 (.seq (.region [⟨(some 45), (.mov (.t 4)), none, []⟩, ⟨(some 46), (.load none (some 2) (.t 16)), none, []⟩, ⟨(some 47),
  (.mov (.t 18)), none, []⟩, ⟨(some 48), (.call (.t 45) [(.t 46), (.t 47)]), none, []⟩, ⟨(some 19), (.new 157 [(.int .i64 0), (.int .i64 0)]), none, []⟩, ⟨none, (.store none 2 (.t 19) (.t 48)), none, []⟩]) (.seq (.region [⟨(some 50), (.mov
  (.t 13)), none, []⟩, ⟨(some 51), (.load none (some 2) (.t 19)), none, []⟩, ⟨(some 52), (.look 5 true (.int .i64 0) (.t 50) (.t 51)), none, []⟩, ⟨(some 49), (.mov (.t 52)), none, []⟩, ⟨(some 53), (.ext 0 (.t 49)), none, []⟩, ⟨(some 54),
  (.ext 1 (.t 49)), none, []⟩, ⟨(some 20), (.mov (.t 53)), none, []⟩, ⟨(some 21), (.mov (.t 54)), none, []⟩]) (.seq (.seq (.region [⟨(some 55), (.mov (.t 21)), none, []⟩, ⟨(some 56), (.not (.t 55)), none, []⟩]) (.cond (.t 56) (.seq (.region
  [⟨(some 57), (.mov (.t 14)), none, []⟩, ⟨(some 58), (.len 1 (.t 57)), none, []⟩, ⟨(some 20), (.mov (.t 58)), none, []⟩]) (.seq (.region [⟨(some 59), (.mov (.t 13)), none, []⟩, ⟨(some 60), (.load none (some 2) (.t 19)), none, []⟩, ⟨(some
  61), (.mov (.t 20)), none, []⟩, ⟨none, (.mset 5 (.t 59) (.t 60) (.t 61)), none, []⟩]) (.seq (.region [⟨(some 62), (.mov (.t 14)), none, []⟩, ⟨(some 63), (.load none (some 2) (.t 19)), none, []⟩, ⟨(some 64), (.mk 157 1 [(.int .i64 0), (.int
  .i64 0)] [(0, (2, (.t 63)))]), none, []⟩, ⟨(some 65), (.app 157 2 16 (.t 62) (.t 64)), none, []⟩, ⟨(some 14), (.mov (.t 65)), none, []⟩]) (.seq (.region [⟨(some 66), (.mov (.t 2)), none, []⟩, ⟨(some 67), (.bin .gtr (.t 66) (.c (.int .i64
  0))), none, []⟩, ⟨(some 68), (.mov (.t 67)), none, []⟩, ⟨(some 69), (.mov (.t 14)), (some (68, true)), []⟩, ⟨(some 70), (.len 1 (.t 69)), (some (68, true)), []⟩, ⟨(some 71), (.mov (.t 2)), (some (68, true)), []⟩, ⟨(some 72), (.bin .gtr (.t
  70) (.t 71)), (some (68, true)), []⟩, ⟨(some 73), (.pick (.t 68) (.t 72) (.c (.bool false))), none, []⟩]) (.cond (.t 73) (.seq (.region [⟨(some 74), (.build [(.int .i64 0), (.int .i64 0), .nils, .nils] []), none, []⟩, ⟨none, (.store none 4
  (.t 10) (.t 74)), none, []⟩, ⟨(some 11), (.mov (.c (.bool false))), none, []⟩]) .ret) .skip))))) .skip)) (.region [⟨(some 75), (.mov (.t 17)), none, []⟩, ⟨(some 76), (.mov (.t 20)), none, []⟩, ⟨(some 77), (.mk 3 1 [(.int .i64 0)] [(0, (1,
  (.t 76)))]), none, []⟩, ⟨(some 78), (.app 3 1 8 (.t 75) (.t 77)), none, []⟩, ⟨(some 17), (.mov (.t 78)), none, []⟩]))))) (.region [⟨(some 43), (.mov (.t 18)), none, []⟩, ⟨(some 44), (.bin .add (.t 43) (.c (.int .i64 1))), none, []⟩, ⟨(some
  18), (.mov (.t 44)), none, []⟩])))))) (.seq (.region [⟨(some 79), (.lea 2 (.t 12)), none, []⟩, ⟨(some 80), (.load (some 80) none (.t 79)), none, []⟩, ⟨(some 81), (.mov (.t 3)), none, []⟩, ⟨(some 82), (.load none (some 2) (.t 16)), none,
  []⟩, ⟨(some 83), (.call (.t 81) [(.t 82)]), none, [80]⟩, ⟨(some 84), (.mk 4 1 [(.bool false)] [(0, (1, (.t 83)))]), none, []⟩, ⟨(some 85), (.app 4 1 1 (.t 80) (.t 84)), none, []⟩, ⟨(some 86), (.lea 2 (.t 12)), none, []⟩, ⟨none, (.store
  none 1 (.t 86) (.t 85)), none, []⟩]) (.region [⟨(some 87), (.lea 3 (.t 12)), none, []⟩, ⟨(some 88), (.load none none (.t 87)), none, []⟩, ⟨(some 89), (.mov (.t 17)), none, []⟩, ⟨(some 90), (.mk 84 1 [.nils] [(0, (1, (.t 89)))]), none, []⟩,
  ⟨(some 91), (.app 84 1 24 (.t 88) (.t 90)), none, []⟩, ⟨(some 92), (.lea 3 (.t 12)), none, []⟩, ⟨none, (.store none 1 (.t 92) (.t 91)), none, []⟩])))))) (.region [⟨(some 33), (.mov (.t 15)), none, []⟩, ⟨(some 34), (.bin .add (.t 33) (.c
  (.int .i64 1))), none, []⟩, ⟨(some 15), (.mov (.t 34)), none, []⟩])))))) (.seq (.region [⟨(some 93), (.load none (some 4) (.t 12)), none, []⟩, ⟨none, (.store none 4 (.t 10) (.t 93)), none, []⟩, ⟨(some 11), (.mov (.c (.bool true))), none,
  []⟩]) .ret))))))⟩
theorem irOk178 : compFun Tryz.prog.underlying Tryz.prog.info? sq Tryz.f178 = some ir178 := by kernel_rfl
def ir179 : BFun := ⟨[(.tmp 3)], (.seq (.region [⟨(some 2), (.box 157 (.t 0)), none, []⟩, ⟨(some 3), (.mov (.c (.bool false))), none, []⟩]) (.seq (.region [⟨(some 4), (.lea 1 (.t 2)), none, []⟩, ⟨(some 5), (.load none none (.t 4)), none,
  []⟩, ⟨(some 6), (.bin .geq (.t 5) (.c (.int .i64 0))), none, []⟩, ⟨(some 7), (.mov (.t 6)), none, []⟩, ⟨(some 8), (.lea 2 (.t 1)), (some (7, true)), []⟩, ⟨(some 9), (.load none none (.t 8)), (some (7, true)), []⟩, ⟨(some 10), (.lea 0 (.t
  2)), (some (7, true)), []⟩, ⟨(some 11), (.load none none (.t 10)), (some (7, true)), []⟩, ⟨(some 12), (.idx 1 (.t 9) (.t 11)), (some (7, true)), []⟩, ⟨(some 13), (.load none none (.t 12)), (some (7, true)), []⟩, ⟨(some 14), (.pick (.t 7)
  (.t 13) (.c (.bool false))), none, []⟩, ⟨(some 3), (.mov (.t 14)), none, []⟩]) .ret))⟩
theorem irOk179 : compFun Tryz.prog.underlying Tryz.prog.info? sq Tryz.f179 = some ir179 := by kernel_rfl
def ir180 : BFun := ⟨[(.cell 6 (some 2))], (.seq (.region [⟨(some 4), (.box 157 (.t 0)), none, []⟩, ⟨(some 6), (.new 157 [(.int .i64 0), (.int .i64 0)]), none, []⟩]) (.seq (.seq (.region [⟨(some 7), (.lea 1 (.t 4)), none, []⟩, ⟨(some 8),
  (.load none none (.t 7)), none, []⟩, ⟨(some 9), (.bin .lss (.t 8) (.c (.int .i64 0))), none, []⟩, ⟨(some 10), (.mov (.t 9)), none, []⟩, ⟨(some 11), (.lea 1 (.t 4)), (some (10, false)), []⟩, ⟨(some 12), (.load none none (.t 11)), (some (10,
  false)), []⟩, ⟨(some 13), (.load none none (.t 2)), (some (10, false)), []⟩, ⟨(some 14), (.mov (.t 1)), (some (10, false)), []⟩, ⟨(some 15), (.idx 1 (.t 13) (.t 14)), (some (10, false)), []⟩, ⟨(some 16), (.load none none (.t 15)), (some
  (10, false)), []⟩, ⟨(some 17), (.bin .andNot (.t 12) (.t 16)), (some (10, false)), []⟩, ⟨(some 18), (.bin .neq (.t 17) (.c (.int .i64 0))), (some (10, false)), []⟩, ⟨(some 19), (.pick (.t 10) (.c (.bool true)) (.t 18)), none, []⟩]) (.cond
  (.t 19) (.seq (.region [⟨(some 20), (.build [(.int .i64 0), (.int .i64 0)] [(1, (1, (.c (.int .i64 (-1)))))]), none, []⟩, ⟨none, (.store none 2 (.t 6) (.t 20)), none, []⟩]) .ret) .skip)) (.seq (.region [⟨(some 21), (.lea 3 (.t 3)), none,
  []⟩, ⟨(some 22), (.load none none (.t 21)), none, []⟩, ⟨(some 23), (.lea 0 (.t 4)), none, []⟩, ⟨(some 24), (.load none none (.t 23)), none, []⟩, ⟨(some 25), (.idx 1 (.t 22) (.t 24)), none, []⟩, ⟨(some 26), (.load none none (.t 25)), none,
  []⟩, ⟨(some 27), (.mov (.t 1)), none, []⟩, ⟨(some 28), (.idx 1 (.t 26) (.t 27)), none, []⟩, ⟨(some 29), (.load none none (.t 28)), none, []⟩, ⟨(some 30), (.load none none (.t 2)), none, []⟩, ⟨(some 31), (.mov (.t 1)), none, []⟩, ⟨(some
  32), (.idx 1 (.t 30) (.t 31)), none, []⟩, ⟨(some 33), (.load none none (.t 32)), none, []⟩, ⟨(some 34), (.build [(.int .i64 0), (.int .i64 0)] [(0, (1, (.t 29))), (1, (1, (.t 33)))]), none, []⟩, ⟨none, (.store none 2 (.t 6) (.t 34)), none,
  []⟩]) .ret)))⟩
theorem irOk180 : compFun Tryz.prog.underlying Tryz.prog.info? sq Tryz.f180 = some ir180 := by kernel_rfl
def ir181 : BFun := ⟨[(.cell 2 (some 4))], (.seq (.region [⟨(some 1), (.box 80 (.t 0)), none, []⟩, ⟨(some 2), (.new 80 [(.int .i64 0), (.int .i64 0), .nils, .nils]), none, []⟩]) (.seq (.region [⟨(some 21), (.lea 2 (.t 1)), none, []⟩, ⟨(some
  22), (.load none none (.t 21)), none, []⟩, ⟨(some 23), (.len 1 (.t 22)), none, []⟩, ⟨(some 24), (.mksl 3 8 [(.int .i64 0)] (.t 23) (.t 23)), none, []⟩, ⟨(some 3), (.new 84 [.nils]), none, []⟩, ⟨none, (.store none 1 (.t 3) (.t 24)), none,
  []⟩]) (.seq (.seq (.region [⟨(some 25), (.lea 2 (.t 1)), none, []⟩, ⟨(some 26), (.load none none (.t 25)), none, []⟩, ⟨(some 27), (.len 1 (.t 26)), none, []⟩, ⟨(some 28), (.mov (.c (.int .i64 0))), none, []⟩]) (.block 0 (.loop (.seq
  (.region [⟨(some 29), (.bin .lss (.t 28) (.t 27)), none, []⟩]) (.seq (.cond (.t 29) .skip (.exit 0)) (.seq (.block 1 (.seq (.region [⟨(some 30), (.mov (.t 28)), none, []⟩, ⟨(some 31), (.idx 1 (.t 26) (.t 28)), none, []⟩, ⟨(some 32), (.load
  none none (.t 31)), none, []⟩, ⟨(some 4), (.mov (.t 30)), none, []⟩, ⟨(some 5), (.mov (.t 32)), none, []⟩]) (.seq (.region [⟨(some 33), (.mov (.t 5)), none, []⟩]) (.cond (.t 33) (.region [⟨(some 34), (.load none none (.t 3)), none, []⟩,
  ⟨(some 35), (.mov (.t 4)), none, []⟩, ⟨(some 36), (.idx 1 (.t 34) (.t 35)), none, []⟩, ⟨none, (.store none 1 (.t 36) (.c (.int .i64 1))), none, []⟩]) .skip)))) (.region [⟨(some 37), (.bin .add (.t 28) (.c (.int .i64 1))), none, []⟩, ⟨(some
  28), (.mov (.t 37)), none, []⟩]))))))) (.seq (.seq (.region [⟨(some 6), (.mov (.c (.int .i64 0))), none, []⟩]) (.block 2 (.loop (.block 3 (.seq (.region [⟨(some 38), .mkmap, none, []⟩, ⟨(some 7), (.mov (.t 38)), none, []⟩]) (.seq (.region
  [⟨(some 39), (.load none none (.t 3)), none, []⟩, ⟨(some 40), (.len 1 (.t 39)), none, []⟩, ⟨(some 41), (.mksl 3 8 [(.int .i64 0)] (.t 40) (.t 40)), none, []⟩, ⟨(some 8), (.mov (.t 41)), none, []⟩]) (.seq (.seq (.region [⟨(some 42), (.lea 3
  (.t 1)), none, []⟩, ⟨(some 43), (.load none none (.t 42)), none, []⟩, ⟨(some 44), (.len 1 (.t 43)), none, []⟩, ⟨(some 45), (.mov (.c (.int .i64 0))), none, []⟩]) (.block 4 (.loop (.seq (.region [⟨(some 46), (.bin .lss (.t 45) (.t 44)),
  none, []⟩]) (.seq (.cond (.t 46) .skip (.exit 4)) (.seq (.block 5 (.seq (.region [⟨(some 47), (.mov (.t 45)), none, []⟩, ⟨(some 48), (.idx 1 (.t 43) (.t 45)), none, []⟩, ⟨(some 49), (.load none none (.t 48)), none, []⟩, ⟨(some 9), (.mov
  (.t 47)), none, []⟩, ⟨(some 10), (.mov (.t 49)), none, []⟩]) (.seq (.region [⟨(some 50), (.load none none (.t 3)), none, []⟩, ⟨(some 51), (.mov (.t 9)), none, []⟩, ⟨(some 52), (.idx 1 (.t 50) (.t 51)), none, []⟩, ⟨(some 53), (.load none
  none (.t 52)), none, []⟩, ⟨(some 54), (.call (.c (.fn 206 [])) [(.t 53)]), none, []⟩, ⟨(some 11), (.mov (.t 54)), none, []⟩]) (.seq (.seq (.region [⟨(some 55), (.mov (.t 10)), none, []⟩, ⟨(some 56), (.len 1 (.t 55)), none, []⟩, ⟨(some 57),
  (.mov (.c (.int .i64 0))), none, []⟩]) (.block 6 (.loop (.seq (.region [⟨(some 58), (.bin .lss (.t 57) (.t 56)), none, []⟩]) (.seq (.cond (.t 58) .skip (.exit 6)) (.seq (.block 7 (.seq (.region [⟨(some 59), (.idx 1 (.t 55) (.t 57)), none,
  []⟩, ⟨(some 60), (.load none none (.t 59)), none, []⟩, ⟨(some 13), (.mov (.t 60)), none, []⟩]) (.region [⟨(some 61), (.mov (.t 11)), none, []⟩, ⟨(some 62), (.load none none (.t 3)), none, []⟩, ⟨(some 63), (.mov (.t 13)), none, []⟩, ⟨(some
  64), (.idx 1 (.t 62) (.t 63)), none, []⟩, ⟨(some 65), (.load none none (.t 64)), none, []⟩, ⟨(some 66), (.call (.c (.fn 206 [])) [(.t 65)]), none, []⟩, ⟨(some 67), (.bin .add (.c (.str ⟨#[44]⟩)) (.t 66)), none, []⟩, ⟨(some 68), (.bin .add
  (.t 61) (.t 67)), none, []⟩, ⟨(some 11), (.mov (.t 68)), none, []⟩]))) (.region [⟨(some 69), (.bin .add (.t 57) (.c (.int .i64 1))), none, []⟩, ⟨(some 57), (.mov (.t 69)), none, []⟩]))))))) (.seq (.region [⟨(some 71), (.mov (.t 7)), none,
  []⟩, ⟨(some 72), (.mov (.t 11)), none, []⟩, ⟨(some 73), (.look 1 true (.int .i64 0) (.t 71) (.t 72)), none, []⟩, ⟨(some 70), (.mov (.t 73)), none, []⟩, ⟨(some 74), (.ext 0 (.t 70)), none, []⟩, ⟨(some 75), (.ext 1 (.t 70)), none, []⟩,
  ⟨(some 14), (.mov (.t 74)), none, []⟩, ⟨(some 15), (.mov (.t 75)), none, []⟩]) (.seq (.seq (.region [⟨(some 76), (.mov (.t 15)), none, []⟩, ⟨(some 77), (.not (.t 76)), none, []⟩]) (.cond (.t 77) (.seq (.region [⟨(some 78), (.mov (.t 7)),
  none, []⟩, ⟨(some 79), (.len 2 (.t 78)), none, []⟩, ⟨(some 14), (.mov (.t 79)), none, []⟩]) (.region [⟨(some 80), (.mov (.t 7)), none, []⟩, ⟨(some 81), (.mov (.t 11)), none, []⟩, ⟨(some 82), (.mov (.t 14)), none, []⟩, ⟨none, (.mset 1 (.t
  80) (.t 81) (.t 82)), none, []⟩])) .skip)) (.region [⟨(some 83), (.mov (.t 8)), none, []⟩, ⟨(some 84), (.mov (.t 9)), none, []⟩, ⟨(some 85), (.mov (.t 14)), none, []⟩, ⟨(some 86), (.idx 1 (.t 83) (.t 84)), none, []⟩, ⟨none, (.store none 1
  (.t 86) (.t 85)), none, []⟩]))))))) (.region [⟨(some 87), (.bin .add (.t 45) (.c (.int .i64 1))), none, []⟩, ⟨(some 45), (.mov (.t 87)), none, []⟩]))))))) (.seq (.region [⟨(some 88), (.mov (.t 8)), none, []⟩, ⟨none, (.store none 1 (.t 3)
  (.t 88)), none, []⟩]) (.seq (.seq (.region [⟨(some 89), (.mov (.t 7)), none, []⟩, ⟨(some 90), (.len 2 (.t 89)), none, []⟩, ⟨(some 91), (.mov (.t 6)), none, []⟩, ⟨(some 92), (.bin .eql (.t 90) (.t 91)), none, []⟩]) (.cond (.t 92) (.exit 2)
  .skip)) (.region [⟨(some 93), (.mov (.t 7)), none, []⟩, ⟨(some 94), (.len 2 (.t 93)), none, []⟩, ⟨(some 6), (.mov (.t 94)), none, []⟩])))))))))) (.seq (.region [⟨(some 95), (.load none none (.t 3)), none, []⟩, ⟨(some 96), (.len 1 (.t 95)),
  none, []⟩, ⟨(some 97), (.mksl 3 8 [(.int .i64 0)] (.t 96) (.t 96)), none, []⟩, ⟨(some 16), (.new 84 [.nils]), none, []⟩, ⟨none, (.store none 1 (.t 16) (.t 97)), none, []⟩]) (.seq (.seq (.region [⟨(some 98), (.load none none (.t 3)), none,
  []⟩, ⟨(some 99), (.len 1 (.t 98)), none, []⟩, ⟨(some 100), (.mov (.c (.int .i64 0))), none, []⟩]) (.block 8 (.loop (.seq (.region [⟨(some 101), (.bin .lss (.t 100) (.t 99)), none, []⟩]) (.seq (.cond (.t 101) .skip (.exit 8)) (.seq (.block
  9 (.seq (.region [⟨(some 102), (.mov (.t 100)), none, []⟩, ⟨(some 103), (.idx 1 (.t 98) (.t 100)), none, []⟩, ⟨(some 104), (.load none none (.t 103)), none, []⟩, ⟨(some 17), (.mov (.t 102)), none, []⟩, ⟨(some 18), (.mov (.t 104)), none,
  []⟩]) (.region [⟨(some 105), (.load none none (.t 16)), none, []⟩, ⟨(some 106), (.mov (.t 18)), none, []⟩, ⟨(some 107), (.mov (.t 17)), none, []⟩, ⟨(some 108), (.idx 1 (.t 105) (.t 106)), none, []⟩, ⟨none, (.store none 1 (.t 108) (.t
  107)), none, []⟩]))) (.region [⟨(some 109), (.bin .add (.t 100) (.c (.int .i64 1))), none, []⟩, ⟨(some 100), (.mov (.t 109)), none, []⟩]))))))) (.seq (.region [⟨(some 111), (.lea 0 (.t 1)), none, []⟩, ⟨(some 112), (.load none none (.t
  111)), none, []⟩, ⟨(some 113), (.load none none (.t 3)), none, []⟩, ⟨(some 114), (.lea 1 (.t 1)), none, []⟩, ⟨(some 115), (.load none none (.t 114)), none, []⟩, ⟨(some 116), (.idx 1 (.t 113) (.t 115)), none, []⟩, ⟨(some 117), (.load none
  none (.t 116)), none, []⟩, ⟨(some 118), (.mkfn 207 [(.t 1), (.t 16)]), none, []⟩, ⟨(some 119), (.mkfn 208 [(.t 3), (.t 1), (.t 16)]), none, []⟩, ⟨(some 120), (.call (.c (.fn 159 [])) [(.t 112), (.t 117), (.c (.int .i64 0)), (.t 118), (.t
  119)]), none, []⟩, ⟨(some 110), (.mov (.t 120)), none, []⟩, ⟨(some 121), (.ext 0 (.t 110)), none, []⟩, ⟨(some 122), (.ext 1 (.t 110)), none, []⟩, ⟨(some 19), (.new 80 [(.int .i64 0), (.int .i64 0), .nils, .nils]), none, []⟩, ⟨none, (.store
  none 4 (.t 19) (.t 121)), none, []⟩, ⟨(some 20), (.mov (.t 122)), none, []⟩]) (.seq (.region [⟨(some 123), (.load none (some 4) (.t 19)), none, []⟩, ⟨none, (.store none 4 (.t 2) (.t 123)), none, []⟩]) .ret))))))))⟩
theorem irOk181 : compFun Tryz.prog.underlying Tryz.prog.info? sq Tryz.f181 = some ir181 := by kernel_rfl
def ir194 : BFun := ⟨[(.tmp 2)], (.seq (.region [⟨(some 2), (.mov (.c (.int .i64 0))), none, []⟩]) (.seq (.region [⟨(some 3), (.mov (.c (.int .i64 1))), none, []⟩]) (.seq (.block 0 (.loop (.seq (.seq (.region [⟨(some 4), (.mov (.t 0)), none,
  []⟩, ⟨(some 5), (.bin .gtr (.t 4) (.c (.int .i64 0))), none, []⟩]) (.cond (.t 5) .skip (.exit 0))) (.seq (.block 1 (.region [⟨(some 8), (.mov (.t 3)), none, []⟩, ⟨(some 9), (.bin .mul (.c (.int .i64 3)) (.t 8)), none, []⟩, ⟨(some 3), (.mov
  (.t 9)), none, []⟩])) (.region [⟨(some 6), (.mov (.t 0)), none, []⟩, ⟨(some 7), (.bin .sub (.t 6) (.c (.int .i64 1))), none, []⟩, ⟨(some 0), (.mov (.t 7)), none, []⟩]))))) (.seq (.region [⟨(some 10), (.mov (.t 3)), none, []⟩, ⟨(some 2),
  (.mov (.t 10)), none, []⟩]) .ret))))⟩
theorem irOk194 : compFun Tryz.prog.underlying Tryz.prog.info? sq Tryz.f194 = some ir194 := by kernel_rfl
def ir195 : BFun := ⟨[(.cell 4 (some 4))], (.seq (.region [⟨(some 4), (.new 29 [(.int .i64 0), (.int .i64 0), .nils, .nils]), none, []⟩]) (.seq (.region [⟨(some 11), (.mov (.t 1)), none, []⟩, ⟨(some 12), (.nilck (.t 11)), none, []⟩, ⟨(some
  13), (.lea 2 (.t 12)), none, []⟩, ⟨(some 14), (.load none none (.t 13)), none, []⟩, ⟨(some 15), (.len 1 (.t 14)), none, []⟩, ⟨(some 5), (.mov (.t 15)), none, []⟩]) (.seq (.region [⟨(some 16), (.mov (.t 0)), none, []⟩, ⟨(some 17), (.nilck
  (.t 16)), none, []⟩, ⟨(some 18), (.lea 0 (.t 17)), none, []⟩, ⟨(some 19), (.load none none (.t 18)), none, []⟩, ⟨(some 20), (.mov (.t 0)), none, []⟩, ⟨(some 21), (.nilck (.t 20)), none, []⟩, ⟨(some 22), (.lea 1 (.t 21)), none, []⟩, ⟨(some
  23), (.load none none (.t 22)), none, []⟩, ⟨(some 24), (.mov (.t 5)), none, []⟩, ⟨(some 25), (.bin .mul (.t 23) (.t 24)), none, []⟩, ⟨(some 26), (.mov (.t 1)), none, []⟩, ⟨(some 27), (.nilck (.t 26)), none, []⟩, ⟨(some 28), (.lea 1 (.t
  27)), none, []⟩, ⟨(some 29), (.load none none (.t 28)), none, []⟩, ⟨(some 30), (.bin .add (.t 25) (.t 29)), none, []⟩, ⟨(some 31), (.build [(.int .i64 0), (.int .i64 0), .nils, .nils] [(0, (1, (.t 19))), (1, (1, (.t 30)))]), none, []⟩,
  ⟨(some 6), (.new 29 [(.int .i64 0), (.int .i64 0), .nils, .nils]), none, []⟩, ⟨none, (.store none 4 (.t 6) (.t 31)), none, []⟩]) (.seq (.seq (.region [⟨(some 7), (.mov (.c (.int .i64 0))), none, []⟩]) (.block 0 (.loop (.seq (.seq (.region
  [⟨(some 32), (.mov (.t 7)), none, []⟩, ⟨(some 33), (.mov (.t 0)), none, []⟩, ⟨(some 34), (.nilck (.t 33)), none, []⟩, ⟨(some 35), (.lea 2 (.t 34)), none, []⟩, ⟨(some 36), (.load none none (.t 35)), none, []⟩, ⟨(some 37), (.len 1 (.t 36)),
  none, []⟩, ⟨(some 38), (.bin .lss (.t 32) (.t 37)), none, []⟩]) (.cond (.t 38) .skip (.exit 0))) (.seq (.block 1 (.seq (.region [⟨(some 8), (.mov (.c (.int .i64 0))), none, []⟩]) (.block 2 (.loop (.seq (.seq (.region [⟨(some 41), (.mov (.t
  8)), none, []⟩, ⟨(some 42), (.mov (.t 1)), none, []⟩, ⟨(some 43), (.nilck (.t 42)), none, []⟩, ⟨(some 44), (.lea 2 (.t 43)), none, []⟩, ⟨(some 45), (.load none none (.t 44)), none, []⟩, ⟨(some 46), (.len 1 (.t 45)), none, []⟩, ⟨(some 47),
  (.bin .lss (.t 41) (.t 46)), none, []⟩]) (.cond (.t 47) .skip (.exit 2))) (.seq (.block 3 (.seq (.region [⟨(some 50), (.mk 2 0 [] []), none, []⟩, ⟨(some 9), (.mov (.t 50)), none, []⟩]) (.seq (.seq (.region [⟨(some 10), (.mov (.c (.int .i64
  0))), none, []⟩]) (.block 4 (.loop (.seq (.seq (.region [⟨(some 51), (.mov (.t 10)), none, []⟩, ⟨(some 52), (.mov (.t 0)), none, []⟩, ⟨(some 53), (.nilck (.t 52)), none, []⟩, ⟨(some 54), (.lea 3 (.t 53)), none, []⟩, ⟨(some 55), (.load none
  none (.t 54)), none, []⟩, ⟨(some 56), (.mov (.t 7)), none, []⟩, ⟨(some 57), (.idx 1 (.t 55) (.t 56)), none, []⟩, ⟨(some 58), (.load none none (.t 57)), none, []⟩, ⟨(some 59), (.len 1 (.t 58)), none, []⟩, ⟨(some 60), (.bin .lss (.t 51) (.t
  59)), none, []⟩]) (.cond (.t 60) .skip (.exit 4))) (.seq (.block 5 (.region [⟨(some 63), (.mov (.t 9)), none, []⟩, ⟨(some 64), (.mov (.t 0)), none, []⟩, ⟨(some 65), (.nilck (.t 64)), none, []⟩, ⟨(some 66), (.lea 3 (.t 65)), none, []⟩,
  ⟨(some 67), (.load none none (.t 66)), none, []⟩, ⟨(some 68), (.mov (.t 7)), none, []⟩, ⟨(some 69), (.idx 1 (.t 67) (.t 68)), none, []⟩, ⟨(some 70), (.load none none (.t 69)), none, []⟩, ⟨(some 71), (.mov (.t 10)), none, []⟩, ⟨(some 72),
  (.idx 1 (.t 70) (.t 71)), none, []⟩, ⟨(some 73), (.load none none (.t 72)), none, []⟩, ⟨(some 74), (.mov (.t 5)), none, []⟩, ⟨(some 75), (.bin .mul (.t 73) (.t 74)), none, []⟩, ⟨(some 76), (.mov (.t 1)), none, []⟩, ⟨(some 77), (.nilck (.t
  76)), none, []⟩, ⟨(some 78), (.lea 3 (.t 77)), none, []⟩, ⟨(some 79), (.load none none (.t 78)), none, []⟩, ⟨(some 80), (.mov (.t 8)), none, []⟩, ⟨(some 81), (.idx 1 (.t 79) (.t 80)), none, []⟩, ⟨(some 82), (.load none none (.t 81)), none,
  []⟩, ⟨(some 83), (.mov (.t 10)), none, []⟩, ⟨(some 84), (.idx 1 (.t 82) (.t 83)), none, []⟩, ⟨(some 85), (.load none none (.t 84)), none, []⟩, ⟨(some 86), (.bin .add (.t 75) (.t 85)), none, []⟩, ⟨(some 87), (.mk 2 1 [(.int .i64 0)] [(0,
  (1, (.t 86)))]), none, []⟩, ⟨(some 88), (.app 2 1 8 (.t 63) (.t 87)), none, []⟩, ⟨(some 9), (.mov (.t 88)), none, []⟩])) (.region [⟨(some 61), (.mov (.t 10)), none, []⟩, ⟨(some 62), (.bin .add (.t 61) (.c (.int .i64 1))), none, []⟩, ⟨(some
  10), (.mov (.t 62)), none, []⟩])))))) (.seq (.region [⟨(some 89), (.lea 2 (.t 6)), none, []⟩, ⟨(some 90), (.load none none (.t 89)), none, []⟩, ⟨(some 91), (.mov (.t 0)), none, []⟩, ⟨(some 92), (.nilck (.t 91)), none, []⟩, ⟨(some 93),
  (.lea 2 (.t 92)), none, []⟩, ⟨(some 94), (.load none none (.t 93)), none, []⟩, ⟨(some 95), (.mov (.t 7)), none, []⟩, ⟨(some 96), (.idx 1 (.t 94) (.t 95)), none, []⟩, ⟨(some 97), (.load none none (.t 96)), none, []⟩, ⟨(some 98), (.mov (.t
  1)), none, []⟩, ⟨(some 99), (.nilck (.t 98)), none, []⟩, ⟨(some 100), (.lea 2 (.t 99)), none, []⟩, ⟨(some 101), (.load none none (.t 100)), none, []⟩, ⟨(some 102), (.mov (.t 8)), none, []⟩, ⟨(some 103), (.idx 1 (.t 101) (.t 102)), none,
  []⟩, ⟨(some 104), (.load none none (.t 103)), none, []⟩, ⟨(some 105), (.beq true (.t 97) (.t 104)), none, []⟩, ⟨(some 106), (.mk 4 1 [(.bool false)] [(0, (1, (.t 105)))]), none, []⟩, ⟨(some 107), (.app 4 1 1 (.t 90) (.t 106)), none, []⟩,
  ⟨(some 108), (.lea 2 (.t 6)), none, []⟩, ⟨none, (.store none 1 (.t 108) (.t 107)), none, []⟩]) (.region [⟨(some 109), (.lea 3 (.t 6)), none, []⟩, ⟨(some 110), (.load none none (.t 109)), none, []⟩, ⟨(some 111), (.mov (.t 9)), none, []⟩,
  ⟨(some 112), (.mk 67 1 [.nils] [(0, (1, (.t 111)))]), none, []⟩, ⟨(some 113), (.app 67 1 24 (.t 110) (.t 112)), none, []⟩, ⟨(some 114), (.lea 3 (.t 6)), none, []⟩, ⟨none, (.store none 1 (.t 114) (.t 113)), none, []⟩]))))) (.region [⟨(some
  48), (.mov (.t 8)), none, []⟩, ⟨(some 49), (.bin .add (.t 48) (.c (.int .i64 1))), none, []⟩, ⟨(some 8), (.mov (.t 49)), none, []⟩]))))))) (.region [⟨(some 39), (.mov (.t 7)), none, []⟩, ⟨(some 40), (.bin .add (.t 39) (.c (.int .i64 1))),
  none, []⟩, ⟨(some 7), (.mov (.t 40)), none, []⟩])))))) (.seq (.region [⟨(some 115), (.load none (some 4) (.t 6)), none, []⟩, ⟨none, (.store none 4 (.t 4) (.t 115)), none, []⟩]) .ret)))))⟩
theorem irOk195 : compFun Tryz.prog.underlying Tryz.prog.info? sq Tryz.f195 = some ir195 := by kernel_rfl
def ir197 : BFun := ⟨[(.tmp 2)], (.seq (.region [⟨(some 2), (.mov (.c (.int .i64 0))), none, []⟩]) (.seq (.region [⟨(some 3), (.mov (.c (.int .i64 0))), none, []⟩]) (.seq (.seq (.region [⟨(some 5), (.mov (.t 0)), none, []⟩, ⟨(some 6), (.len
  1 (.t 5)), none, []⟩, ⟨(some 7), (.bin .sub (.t 6) (.c (.int .i64 1))), none, []⟩, ⟨(some 4), (.mov (.t 7)), none, []⟩]) (.block 0 (.loop (.seq (.seq (.region [⟨(some 8), (.mov (.t 4)), none, []⟩, ⟨(some 9), (.bin .geq (.t 8) (.c (.int
  .i64 0))), none, []⟩]) (.cond (.t 9) .skip (.exit 0))) (.seq (.block 1 (.region [⟨(some 12), (.mov (.t 3)), none, []⟩, ⟨(some 13), (.bin .mul (.c (.int .i64 3)) (.t 12)), none, []⟩, ⟨(some 14), (.mov (.t 0)), none, []⟩, ⟨(some 15), (.mov
  (.t 4)), none, []⟩, ⟨(some 16), (.idx 1 (.t 14) (.t 15)), none, []⟩, ⟨(some 17), (.load none none (.t 16)), none, []⟩, ⟨(some 18), (.bin .add (.t 13) (.t 17)), none, []⟩, ⟨(some 3), (.mov (.t 18)), none, []⟩])) (.region [⟨(some 10), (.mov
  (.t 4)), none, []⟩, ⟨(some 11), (.bin .sub (.t 10) (.c (.int .i64 1))), none, []⟩, ⟨(some 4), (.mov (.t 11)), none, []⟩])))))) (.seq (.region [⟨(some 19), (.mov (.t 3)), none, []⟩, ⟨(some 2), (.mov (.t 19)), none, []⟩]) .ret))))⟩
theorem irOk197 : compFun Tryz.prog.underlying Tryz.prog.info? sq Tryz.f197 = some ir197 := by kernel_rfl
def ir200 : BFun := ⟨[(.tmp 2)], (.seq (.region [⟨(some 2), (.mov (.c .nils)), none, []⟩]) (.seq (.region [⟨(some 3), (.mov (.c .nils)), none, []⟩]) (.seq (.seq (.region [⟨(some 6), (.mov (.t 0)), none, []⟩, ⟨(some 7), (.len 1 (.t 6)), none,
  []⟩, ⟨(some 8), (.mov (.c (.int .i64 0))), none, []⟩]) (.block 0 (.loop (.seq (.region [⟨(some 9), (.bin .lss (.t 8) (.t 7)), none, []⟩]) (.seq (.cond (.t 9) .skip (.exit 0)) (.seq (.block 1 (.seq (.region [⟨(some 10), (.idx 1 (.t 6) (.t
  8)), none, []⟩, ⟨(some 11), (.load none none (.t 10)), none, []⟩, ⟨(some 5), (.mov (.t 11)), none, []⟩]) (.region [⟨(some 12), (.mov (.t 3)), none, []⟩, ⟨(some 13), (.mov (.t 5)), none, []⟩, ⟨(some 14), (.mk 2 1 [(.int .i64 0)] [(0, (1,
  (.t 13)))]), none, []⟩, ⟨(some 15), (.app 2 1 8 (.t 12) (.t 14)), none, []⟩, ⟨(some 3), (.mov (.t 15)), none, []⟩]))) (.region [⟨(some 16), (.bin .add (.t 8) (.c (.int .i64 1))), none, []⟩, ⟨(some 8), (.mov (.t 16)), none, []⟩])))))))
  (.seq (.region [⟨(some 17), (.mov (.t 3)), none, []⟩, ⟨(some 2), (.mov (.t 17)), none, []⟩]) .ret))))⟩
theorem irOk200 : compFun Tryz.prog.underlying Tryz.prog.info? sq Tryz.f200 = some ir200 := by kernel_rfl
def ir202 : BFun := ⟨[(.cell 4 (some 4)), (.tmp 5)], (.seq (.region [⟨(some 2), (.box 29 (.t 0)), none, []⟩, ⟨(some 3), (.box 29 (.t 1)), none, []⟩, ⟨(some 4), (.new 29 [(.int .i64 0), (.int .i64 0), .nils, .nils]), none, []⟩, ⟨(some 5),
  (.mov (.c (.int .i64 0))), none, []⟩]) (.seq (.block 0 (.seq (.region [⟨(some 15), (.load none (some 4) (.t 2)), none, []⟩, ⟨(some 16), (.call (.c (.fn 73 [])) [(.t 15)]), none, []⟩, ⟨(some 17), (.not (.t 16)), none, []⟩, ⟨(some 18), (.mov
  (.t 17)), none, []⟩, ⟨(some 19), (.load none (some 4) (.t 3)), (some (18, false)), []⟩, ⟨(some 20), (.call (.c (.fn 73 [])) [(.t 19)]), (some (18, false)), []⟩, ⟨(some 21), (.not (.t 20)), (some (18, false)), []⟩, ⟨(some 22), (.pick (.t
  18) (.c (.bool true)) (.t 21)), none, []⟩, ⟨(some 14), (.mov (.t 22)), none, []⟩]) (.cond (.t 14) (.seq (.region [⟨(some 23), (.build [(.int .i64 0), (.int .i64 0), .nils, .nils] []), none, []⟩, ⟨none, (.store none 4 (.t 4) (.t 23)), none,
  []⟩, ⟨(some 5), (.mov (.c (.int .i64 1))), none, []⟩]) .ret) (.seq (.region [⟨(some 25), (.lea 0 (.t 2)), none, []⟩, ⟨(some 26), (.load none none (.t 25)), none, []⟩, ⟨(some 27), (.lea 0 (.t 3)), none, []⟩, ⟨(some 28), (.load none none (.t
  27)), none, []⟩, ⟨(some 29), (.bin .add (.t 26) (.t 28)), none, []⟩, ⟨(some 30), (.bin .gtr (.t 29) (.c (.int .i64 3))), none, []⟩, ⟨(some 24), (.mov (.t 30)), none, []⟩]) (.cond (.t 24) (.seq (.region [⟨(some 31), (.build [(.int .i64 0),
  (.int .i64 0), .nils, .nils] []), none, []⟩, ⟨none, (.store none 4 (.t 4) (.t 31)), none, []⟩, ⟨(some 5), (.mov (.c (.int .i64 2))), none, []⟩]) .ret) .skip))))) (.seq (.region [⟨(some 6), (.mov (.c .nils)), none, []⟩, ⟨(some 7), (.mov (.c
  .nils)), none, []⟩]) (.seq (.seq (.region [⟨(some 8), (.mov (.c (.int .i64 0))), none, []⟩]) (.block 1 (.loop (.seq (.seq (.region [⟨(some 32), (.mov (.t 8)), none, []⟩, ⟨(some 33), (.lea 0 (.t 3)), none, []⟩, ⟨(some 34), (.load none none
  (.t 33)), none, []⟩, ⟨(some 35), (.bin .lss (.t 32) (.t 34)), none, []⟩]) (.cond (.t 35) .skip (.exit 1))) (.seq (.block 2 (.region [⟨(some 38), (.mov (.t 6)), none, []⟩, ⟨(some 39), (.lea 0 (.t 2)), none, []⟩, ⟨(some 40), (.load none none
  (.t 39)), none, []⟩, ⟨(some 41), (.mov (.t 8)), none, []⟩, ⟨(some 42), (.bin .add (.t 40) (.t 41)), none, []⟩, ⟨(some 43), (.mk 2 1 [(.int .i64 0)] [(0, (1, (.t 42)))]), none, []⟩, ⟨(some 44), (.app 2 1 8 (.t 38) (.t 43)), none, []⟩,
  ⟨(some 6), (.mov (.t 44)), none, []⟩])) (.region [⟨(some 36), (.mov (.t 8)), none, []⟩, ⟨(some 37), (.bin .add (.t 36) (.c (.int .i64 1))), none, []⟩, ⟨(some 8), (.mov (.t 37)), none, []⟩])))))) (.seq (.seq (.region [⟨(some 9), (.mov (.c
  (.int .i64 0))), none, []⟩]) (.block 3 (.loop (.seq (.seq (.region [⟨(some 45), (.mov (.t 9)), none, []⟩, ⟨(some 46), (.lea 0 (.t 2)), none, []⟩, ⟨(some 47), (.load none none (.t 46)), none, []⟩, ⟨(some 48), (.bin .lss (.t 45) (.t 47)),
  none, []⟩]) (.cond (.t 48) .skip (.exit 3))) (.seq (.block 4 (.region [⟨(some 51), (.mov (.t 7)), none, []⟩, ⟨(some 52), (.mk 2 1 [(.int .i64 0)] [(0, (1, (.c (.int .i64 0))))]), none, []⟩, ⟨(some 53), (.app 2 1 8 (.t 51) (.t 52)), none,
  []⟩, ⟨(some 7), (.mov (.t 53)), none, []⟩])) (.region [⟨(some 49), (.mov (.t 9)), none, []⟩, ⟨(some 50), (.bin .add (.t 49) (.c (.int .i64 1))), none, []⟩, ⟨(some 9), (.mov (.t 50)), none, []⟩])))))) (.seq (.region [⟨(some 55), (.load none
  (some 4) (.t 2)), none, []⟩, ⟨(some 56), (.mov (.t 6)), none, []⟩, ⟨(some 57), (.call (.c (.fn 47 [])) [(.t 55), (.t 56)]), none, []⟩, ⟨(some 54), (.mov (.t 57)), none, []⟩, ⟨(some 58), (.ext 0 (.t 54)), none, []⟩, ⟨(some 59), (.ext 1 (.t
  54)), none, []⟩, ⟨(some 10), (.new 29 [(.int .i64 0), (.int .i64 0), .nils, .nils]), none, []⟩, ⟨none, (.store none 4 (.t 10) (.t 58)), none, []⟩, ⟨(some 11), (.mov (.t 59)), none, []⟩]) (.seq (.region [⟨(some 61), (.load none (some 4) (.t
  3)), none, []⟩, ⟨(some 62), (.mov (.t 7)), none, []⟩, ⟨(some 63), (.call (.c (.fn 47 [])) [(.t 61), (.t 62)]), none, []⟩, ⟨(some 60), (.mov (.t 63)), none, []⟩, ⟨(some 64), (.ext 0 (.t 60)), none, []⟩, ⟨(some 65), (.ext 1 (.t 60)), none,
  []⟩, ⟨(some 12), (.new 29 [(.int .i64 0), (.int .i64 0), .nils, .nils]), none, []⟩, ⟨none, (.store none 4 (.t 12) (.t 64)), none, []⟩, ⟨(some 13), (.mov (.t 65)), none, []⟩]) (.seq (.region [⟨(some 66), (.load none (some 4) (.t 10)), none,
  []⟩, ⟨(some 67), (.mov (.t 11)), none, []⟩, ⟨(some 68), (.load none (some 4) (.t 12)), none, []⟩, ⟨(some 69), (.mov (.t 13)), none, []⟩, ⟨(some 70), (.call (.c (.fn 48 [])) [(.t 66), (.t 67), (.t 68), (.t 69)]), none, []⟩, ⟨(some 71),
  (.ext 0 (.t 70)), none, []⟩, ⟨(some 72), (.ext 1 (.t 70)), none, []⟩, ⟨none, (.store none 4 (.t 4) (.t 71)), none, []⟩, ⟨(some 5), (.mov (.t 72)), none, []⟩]) .ret))))))))⟩
theorem irOk202 : compFun Tryz.prog.underlying Tryz.prog.info? sq Tryz.f202 = some ir202 := by kernel_rfl
def ir203 : BFun := ⟨[(.cell 10 (some 4)), (.tmp 11)], (.seq (.region [⟨(some 6), (.box 182 (.t 1)), none, []⟩, ⟨(some 10), (.new 80 [(.int .i64 0), (.int .i64 0), .nils, .nils]), none, []⟩, ⟨(some 11), (.mov (.c (.bool false))), none, []⟩])
  (.seq (.region [⟨(some 22), (.mov (.t 0)), none, []⟩, ⟨(some 23), (.build [(.int .i64 0), (.int .i64 0), .nils, .nils] [(0, (1, (.t 22)))]), none, []⟩, ⟨(some 12), (.new 80 [(.int .i64 0), (.int .i64 0), .nils, .nils]), none, []⟩, ⟨none,
  (.store none 4 (.t 12) (.t 23)), none, []⟩]) (.seq (.region [⟨(some 24), .mkmap, none, []⟩, ⟨(some 25), (.load none (some 2) (.t 6)), none, []⟩, ⟨none, (.mset 5 (.t 24) (.t 25) (.c (.int .i64 0))), none, []⟩, ⟨(some 26), (.mov (.t 24)),
  none, []⟩, ⟨(some 13), (.mov (.t 26)), none, []⟩]) (.seq (.region [⟨(some 27), (.load none (some 2) (.t 6)), none, []⟩, ⟨(some 28), (.mk 182 1 [(.int .i64 0), (.int .i64 0)] [(0, (2, (.t 27)))]), none, []⟩, ⟨(some 14), (.mov (.t 28)),
  none, []⟩]) (.seq (.seq (.region [⟨(some 15), (.mov (.c (.int .i64 0))), none, []⟩]) (.block 0 (.loop (.seq (.seq (.region [⟨(some 29), (.mov (.t 15)), none, []⟩, ⟨(some 30), (.mov (.t 14)), none, []⟩, ⟨(some 31), (.len 1 (.t 30)), none,
  []⟩, ⟨(some 32), (.bin .lss (.t 29) (.t 31)), none, []⟩]) (.cond (.t 32) .skip (.exit 0))) (.seq (.block 1 (.seq (.region [⟨(some 35), (.mov (.t 14)), none, []⟩, ⟨(some 36), (.mov (.t 15)), none, []⟩, ⟨(some 37), (.idx 2 (.t 35) (.t 36)),
  none, []⟩, ⟨(some 38), (.load none (some 2) (.t 37)), none, []⟩, ⟨(some 16), (.new 182 [(.int .i64 0), (.int .i64 0)]), none, []⟩, ⟨none, (.store none 2 (.t 16) (.t 38)), none, []⟩]) (.seq (.region [⟨(some 17), (.mov (.c .nils)), none,
  []⟩]) (.seq (.seq (.region [⟨(some 18), (.mov (.c (.int .i64 0))), none, []⟩]) (.block 2 (.loop (.seq (.seq (.region [⟨(some 39), (.mov (.t 18)), none, []⟩, ⟨(some 40), (.mov (.t 0)), none, []⟩, ⟨(some 41), (.call (.c (.fn 110 [])) [(.t
  40)]), none, []⟩, ⟨(some 42), (.bin .lss (.t 39) (.t 41)), none, []⟩]) (.cond (.t 42) .skip (.exit 2))) (.seq (.block 3 (.seq (.region [⟨(some 45), (.mov (.t 4)), none, []⟩, ⟨(some 46), (.load none (some 2) (.t 16)), none, []⟩, ⟨(some 47),
  (.mov (.t 18)), none, []⟩, ⟨(some 48), (.call (.t 45) [(.t 46), (.t 47)]), none, []⟩, ⟨(some 19), (.new 182 [(.int .i64 0), (.int .i64 0)]), none, []⟩, ⟨none, (.store none 2 (.t 19) (.t 48)), none, []⟩]) (.seq (.region [⟨(some 50), (.mov
  (.t 13)), none, []⟩, ⟨(some 51), (.load none (some 2) (.t 19)), none, []⟩, ⟨(some 52), (.look 5 true (.int .i64 0) (.t 50) (.t 51)), none, []⟩, ⟨(some 49), (.mov (.t 52)), none, []⟩, ⟨(some 53), (.ext 0 (.t 49)), none, []⟩, ⟨(some 54),
  (.ext 1 (.t 49)), none, []⟩, ⟨(some 20), (.mov (.t 53)), none, []⟩, ⟨(some 21), (.mov (.t 54)), none, []⟩]) (.seq (.seq (.region [⟨(some 55), (.mov (.t 21)), none, []⟩, ⟨(some 56), (.not (.t 55)), none, []⟩]) (.cond (.t 56) (.seq (.region
  [⟨(some 57), (.mov (.t 14)), none, []⟩, ⟨(some 58), (.len 1 (.t 57)), none, []⟩, ⟨(some 20), (.mov (.t 58)), none, []⟩]) (.seq (.region [⟨(some 59), (.mov (.t 13)), none, []⟩, ⟨(some 60), (.load none (some 2) (.t 19)), none, []⟩, ⟨(some
  61), (.mov (.t 20)), none, []⟩, ⟨none, (.mset 5 (.t 59) (.t 60) (.t 61)), none, []⟩]) (.seq (.region [⟨(some 62), (.mov (.t 14)), none, []⟩, ⟨(some 63), (.load none (some 2) (.t 19)), none, []⟩, ⟨(some 64), (.mk 182 1 [(.int .i64 0), (.int
  .i64 0)] [(0, (2, (.t 63)))]), none, []⟩, ⟨(some 65), (.app 182 2 16 (.t 62) (.t 64)), none, []⟩, ⟨(some 14), (.mov (.t 65)), none, []⟩]) (.seq (.region [⟨(some 66), (.mov (.t 2)), none, []⟩, ⟨(some 67), (.bin .gtr (.t 66) (.c (.int .i64
  0))), none, []⟩, ⟨(some 68), (.mov (.t 67)), none, []⟩, ⟨(some 69), (.mov (.t 14)), (some (68, true)), []⟩, ⟨(some 70), (.len 1 (.t 69)), (some (68, true)), []⟩, ⟨(some 71), (.mov (.t 2)), (some (68, true)), []⟩, ⟨(some 72), (.bin .gtr (.t
  70) (.t 71)), (some (68, true)), []⟩, ⟨(some 73), (.pick (.t 68) (.t 72) (.c (.bool false))), none, []⟩]) (.cond (.t 73) (.seq (.region [⟨(some 74), (.build [(.int .i64 0), (.int .i64 0), .nils, .nils] []), none, []⟩, ⟨none, (.store none 4
  (.t 10) (.t 74)), none, []⟩, ⟨(some 11), (.mov (.c (.bool false))), none, []⟩]) .ret) .skip))))) .skip)) (.region [⟨(some 75), (.mov (.t 17)), none, []⟩, ⟨(some 76), (.mov (.t 20)), none, []⟩, ⟨(some 77), (.mk 3 1 [(.int .i64 0)] [(0, (1,
  (.t 76)))]), none, []⟩, ⟨(some 78), (.app 3 1 8 (.t 75) (.t 77)), none, []⟩, ⟨(some 17), (.mov (.t 78)), none, []⟩]))))) (.region [⟨(some 43), (.mov (.t 18)), none, []⟩, ⟨(some 44), (.bin .add (.t 43) (.c (.int .i64 1))), none, []⟩, ⟨(some
  18), (.mov (.t 44)), none, []⟩])))))) (.seq (.region [⟨(some 79), (.lea 2 (.t 12)), none, []⟩, ⟨(some 80), (.load (some 80) none (.t 79)), none, []⟩, ⟨(some 81), (.mov (.t 3)), none, []⟩, ⟨(some 82), (.load none (some 2) (.t 16)), none,
  []⟩, ⟨(some 83), (.call (.t 81) [(.t 82)]), none, [80]⟩, ⟨(some 84), (.mk 4 1 [(.bool false)] [(0, (1, (.t 83)))]), none, []⟩, ⟨(some 85), (.app 4 1 1 (.t 80) (.t 84)), none, []⟩, ⟨(some 86), (.lea 2 (.t 12)), none, []⟩, ⟨none, (.store
  none 1 (.t 86) (.t 85)), none, []⟩]) (.region [⟨(some 87), (.lea 3 (.t 12)), none, []⟩, ⟨(some 88), (.load none none (.t 87)), none, []⟩, ⟨(some 89), (.mov (.t 17)), none, []⟩, ⟨(some 90), (.mk 84 1 [.nils] [(0, (1, (.t 89)))]), none, []⟩,
  ⟨(some 91), (.app 84 1 24 (.t 88) (.t 90)), none, []⟩, ⟨(some 92), (.lea 3 (.t 12)), none, []⟩, ⟨none, (.store none 1 (.t 92) (.t 91)), none, []⟩])))))) (.region [⟨(some 33), (.mov (.t 15)), none, []⟩, ⟨(some 34), (.bin .add (.t 33) (.c
  (.int .i64 1))), none, []⟩, ⟨(some 15), (.mov (.t 34)), none, []⟩])))))) (.seq (.region [⟨(some 93), (.load none (some 4) (.t 12)), none, []⟩, ⟨none, (.store none 4 (.t 10) (.t 93)), none, []⟩, ⟨(some 11), (.mov (.c (.bool true))), none,
  []⟩]) .ret))))))⟩
theorem irOk203 : compFun Tryz.prog.underlying Tryz.prog.info? sq Tryz.f203 = some ir203 := by kernel_rfl
def ir204 : BFun := ⟨[(.tmp 5)], (.seq (.region [⟨(some 4), (.box 182 (.t 0)), none, []⟩, ⟨(some 5), (.mov (.c (.bool false))), none, []⟩]) (.seq (.region [⟨(some 6), (.load none none (.t 1)), none, []⟩, ⟨(some 7), (.lea 2 (.t 2)), none,
  []⟩, ⟨(some 8), (.load none none (.t 7)), none, []⟩, ⟨(some 9), (.idxa 2 1 (.t 4) (.c (.int .i64 0))), none, []⟩, ⟨(some 10), (.load none none (.t 9)), none, []⟩, ⟨(some 11), (.idx 1 (.t 8) (.t 10)), none, []⟩, ⟨(some 12), (.load none none
  (.t 11)), none, []⟩, ⟨(some 13), (.lea 2 (.t 3)), none, []⟩, ⟨(some 14), (.load none none (.t 13)), none, []⟩, ⟨(some 15), (.idxa 2 1 (.t 4) (.c (.int .i64 1))), none, []⟩, ⟨(some 16), (.load none none (.t 15)), none, []⟩, ⟨(some 17),
  (.idx 1 (.t 14) (.t 16)), none, []⟩, ⟨(some 18), (.load none none (.t 17)), none, []⟩, ⟨(some 19), (.call (.t 6) [(.t 12), (.t 18)]), none, []⟩, ⟨(some 5), (.mov (.t 19)), none, []⟩]) .ret))⟩
theorem irOk204 : compFun Tryz.prog.underlying Tryz.prog.info? sq Tryz.f204 = some ir204 := by kernel_rfl
def ir205 : BFun := ⟨[(.cell 6 (some 2))], (.seq (.region [⟨(some 4), (.box 182 (.t 0)), none, []⟩, ⟨(some 6), (.new 182 [(.int .i64 0), (.int .i64 0)]), none, []⟩]) (.seq (.region [⟨(some 7), (.lea 3 (.t 2)), none, []⟩, ⟨(some 8), (.load
  none none (.t 7)), none, []⟩, ⟨(some 9), (.idxa 2 1 (.t 4) (.c (.int .i64 0))), none, []⟩, ⟨(some 10), (.load none none (.t 9)), none, []⟩, ⟨(some 11), (.idx 1 (.t 8) (.t 10)), none, []⟩, ⟨(some 12), (.load none none (.t 11)), none, []⟩,
  ⟨(some 13), (.mov (.t 1)), none, []⟩, ⟨(some 14), (.idx 1 (.t 12) (.t 13)), none, []⟩, ⟨(some 15), (.load none none (.t 14)), none, []⟩, ⟨(some 16), (.lea 3 (.t 3)), none, []⟩, ⟨(some 17), (.load none none (.t 16)), none, []⟩, ⟨(some 18),
  (.idxa 2 1 (.t 4) (.c (.int .i64 1))), none, []⟩, ⟨(some 19), (.load none none (.t 18)), none, []⟩, ⟨(some 20), (.idx 1 (.t 17) (.t 19)), none, []⟩, ⟨(some 21), (.load none none (.t 20)), none, []⟩, ⟨(some 22), (.mov (.t 1)), none, []⟩,
  ⟨(some 23), (.idx 1 (.t 21) (.t 22)), none, []⟩, ⟨(some 24), (.load none none (.t 23)), none, []⟩, ⟨(some 25), (.build [(.int .i64 0), (.int .i64 0)] [(0, (1, (.t 15))), (1, (1, (.t 24)))]), none, []⟩, ⟨none, (.store none 2 (.t 6) (.t
  25)), none, []⟩]) .ret))⟩
theorem irOk205 : compFun Tryz.prog.underlying Tryz.prog.info? sq Tryz.f205 = some ir205 := by kernel_rfl
def ir207 : BFun := ⟨[(.tmp 4)], (.seq (.region [⟨(some 4), (.mov (.c (.bool false))), none, []⟩]) (.seq (.region [⟨(some 5), (.lea 2 (.t 1)), none, []⟩, ⟨(some 6), (.load none none (.t 5)), none, []⟩, ⟨(some 7), (.load none none (.t 2)),
  none, []⟩, ⟨(some 8), (.mov (.t 0)), none, []⟩, ⟨(some 9), (.idx 1 (.t 7) (.t 8)), none, []⟩, ⟨(some 10), (.load none none (.t 9)), none, []⟩, ⟨(some 11), (.idx 1 (.t 6) (.t 10)), none, []⟩, ⟨(some 12), (.load none none (.t 11)), none,
  []⟩, ⟨(some 4), (.mov (.t 12)), none, []⟩]) .ret))⟩
theorem irOk207 : compFun Tryz.prog.underlying Tryz.prog.info? sq Tryz.f207 = some ir207 := by kernel_rfl
def ir208 : BFun := ⟨[(.tmp 7)], (.seq (.region [⟨(some 7), (.mov (.c (.int .i64 0))), none, []⟩]) (.seq (.region [⟨(some 8), (.load none none (.t 2)), none, []⟩, ⟨(some 9), (.lea 3 (.t 3)), none, []⟩, ⟨(some 10), (.load none none (.t 9)),
  none, []⟩, ⟨(some 11), (.load none none (.t 4)), none, []⟩, ⟨(some 12), (.mov (.t 0)), none, []⟩, ⟨(some 13), (.idx 1 (.t 11) (.t 12)), none, []⟩, ⟨(some 14), (.load none none (.t 13)), none, []⟩, ⟨(some 15), (.idx 1 (.t 10) (.t 14)),
  none, []⟩, ⟨(some 16), (.load none none (.t 15)), none, []⟩, ⟨(some 17), (.mov (.t 1)), none, []⟩, ⟨(some 18), (.idx 1 (.t 16) (.t 17)), none, []⟩, ⟨(some 19), (.load none none (.t 18)), none, []⟩, ⟨(some 20), (.idx 1 (.t 8) (.t 19)),
  none, []⟩, ⟨(some 21), (.load none none (.t 20)), none, []⟩, ⟨(some 7), (.mov (.t 21)), none, []⟩]) .ret))⟩
theorem irOk208 : compFun Tryz.prog.underlying Tryz.prog.info? sq Tryz.f208 = some ir208 := by kernel_rfl
def fnA : Nat → Option BFun
  | 10 => some ir10
  | 15 => some ir15
  | 18 => some ir18
  | 19 => some ir19
  | 30 => some ir30
  | 31 => some ir31
  | 40 => some ir40
  | 41 => some ir41
  | 42 => some ir42
  | 45 => some ir45
  | 47 => some ir47
  | 48 => some ir48
  | 52 => some ir52
  | 53 => some ir53
  | 54 => some ir54
  | 55 => some ir55
  | 56 => some ir56
  | 58 => some ir58
  | 61 => some ir61
  | _ => none
def fnB : Nat → Option BFun
  | 64 => some ir64
  | 67 => some ir67
  | 73 => some ir73
  | 75 => some ir75
  | 82 => some ir82
  | 83 => some ir83
  | 85 => some ir85
  | 86 => some ir86
  | 87 => some ir87
  | 88 => some ir88
  | 91 => some ir91
  | 92 => some ir92
  | 95 => some ir95
  | 96 => some ir96
  | 97 => some ir97
  | 106 => some ir106
  | 107 => some ir107
  | 110 => some ir110
  | 111 => some ir111
  | 112 => some ir112
  | 113 => some ir113
  | 114 => some ir114
  | 115 => some ir115
  | 116 => some ir116
  | 117 => some ir117
  | 123 => some ir123
  | 125 => some ir125
  | _ => none
def fnC : Nat → Option BFun
  | 126 => some ir126
  | 127 => some ir127
  | 134 => some ir134
  | 135 => some ir135
  | 136 => some ir136
  | 137 => some ir137
  | 138 => some ir138
  | 139 => some ir139
  | 144 => some ir144
  | 145 => some ir145
  | 147 => some ir147
  | 148 => some ir148
  | 156 => some ir156
  | 158 => some ir158
  | 159 => some ir159
  | 162 => some ir162
  | 163 => some ir163
  | 164 => some ir164
  | 167 => some ir167
  | 168 => some ir168
  | 169 => some ir169
  | 170 => some ir170
  | 171 => some ir171
  | 173 => some ir173
  | 174 => some ir174
  | 176 => some ir176
  | 177 => some ir177
  | 178 => some ir178
  | 179 => some ir179
  | 180 => some ir180
  | 181 => some ir181
  | 194 => some ir194
  | 195 => some ir195
  | 197 => some ir197
  | 200 => some ir200
  | _ => none
def fnD : Nat → Option BFun
  | 202 => some ir202
  | 203 => some ir203
  | 204 => some ir204
  | 205 => some ir205
  | 207 => some ir207
  | 208 => some ir208
  | _ => none
def fnOf (f : Nat) : Option BFun := match fnA f with | some x => some x | none => match fnB f with | some x => some x | none => match fnC f with | some x => some x | none => fnD f
def gam (base : Nat) : Ctx := ⟨base, fnOf, orC (itoaB 206) (orC (delB base 146 3) (insB base 198 3))⟩
theorem linkedA : Linked Tryz.prog sq ⟨0, fnA, fun _ _ _ _ _ => False⟩ := by
  intro f bfn h
  simp only [fnA] at h
  split at h
  · cases h; exact ⟨Tryz.f10, Tryz.func10, irOk10, by kernel_rfl⟩
  · cases h; exact ⟨Tryz.f15, Tryz.func15, irOk15, by kernel_rfl⟩
  · cases h; exact ⟨Tryz.f18, Tryz.func18, irOk18, by kernel_rfl⟩
  · cases h; exact ⟨Tryz.f19, Tryz.func19, irOk19, by kernel_rfl⟩
  · cases h; exact ⟨Tryz.f30, Tryz.func30, irOk30, by kernel_rfl⟩
  · cases h; exact ⟨Tryz.f31, Tryz.func31, irOk31, by kernel_rfl⟩
  · cases h; exact ⟨Tryz.f40, Tryz.func40, irOk40, by kernel_rfl⟩
  · cases h; exact ⟨Tryz.f41, Tryz.func41, irOk41, by kernel_rfl⟩
  · cases h; exact ⟨Tryz.f42, Tryz.func42, irOk42, by kernel_rfl⟩
  · cases h; exact ⟨Tryz.f45, Tryz.func45, irOk45, by kernel_rfl⟩
  · cases h; exact ⟨Tryz.f47, Tryz.func47, irOk47, by kernel_rfl⟩
  · cases h; exact ⟨Tryz.f48, Tryz.func48, irOk48, by kernel_rfl⟩
  · cases h; exact ⟨Tryz.f52, Tryz.func52, irOk52, by kernel_rfl⟩
  · cases h; exact ⟨Tryz.f53, Tryz.func53, irOk53, by kernel_rfl⟩
  · cases h; exact ⟨Tryz.f54, Tryz.func54, irOk54, by kernel_rfl⟩
  · cases h; exact ⟨Tryz.f55, Tryz.func55, irOk55, by kernel_rfl⟩
  · cases h; exact ⟨Tryz.f56, Tryz.func56, irOk56, by kernel_rfl⟩
  · cases h; exact ⟨Tryz.f58, Tryz.func58, irOk58, by kernel_rfl⟩
  · cases h; exact ⟨Tryz.f61, Tryz.func61, irOk61, by kernel_rfl⟩
  · cases h
theorem linkedB : Linked Tryz.prog sq ⟨0, fnB, fun _ _ _ _ _ => False⟩ := by
  intro f bfn h
  simp only [fnB] at h
  split at h
  · cases h; exact ⟨Tryz.f64, Tryz.func64, irOk64, by kernel_rfl⟩
  · cases h; exact ⟨Tryz.f67, Tryz.func67, irOk67, by kernel_rfl⟩
  · cases h; exact ⟨Tryz.f73, Tryz.func73, irOk73, by kernel_rfl⟩
  · cases h; exact ⟨Tryz.f75, Tryz.func75, irOk75, by kernel_rfl⟩
  · cases h; exact ⟨Tryz.f82, Tryz.func82, irOk82, by kernel_rfl⟩
  · cases h; exact ⟨Tryz.f83, Tryz.func83, irOk83, by kernel_rfl⟩
  · cases h; exact ⟨Tryz.f85, Tryz.func85, irOk85, by kernel_rfl⟩
  · cases h; exact ⟨Tryz.f86, Tryz.func86, irOk86, by kernel_rfl⟩
  · cases h; exact ⟨Tryz.f87, Tryz.func87, irOk87, by kernel_rfl⟩
  · cases h; exact ⟨Tryz.f88, Tryz.func88, irOk88, by kernel_rfl⟩
  · cases h; exact ⟨Tryz.f91, Tryz.func91, irOk91, by kernel_rfl⟩
  · cases h; exact ⟨Tryz.f92, Tryz.func92, irOk92, by kernel_rfl⟩
  · cases h; exact ⟨Tryz.f95, Tryz.func95, irOk95, by kernel_rfl⟩
  · cases h; exact ⟨Tryz.f96, Tryz.func96, irOk96, by kernel_rfl⟩
  · cases h; exact ⟨Tryz.f97, Tryz.func97, irOk97, by kernel_rfl⟩
  · cases h; exact ⟨Tryz.f106, Tryz.func106, irOk106, by kernel_rfl⟩
  · cases h; exact ⟨Tryz.f107, Tryz.func107, irOk107, by kernel_rfl⟩
  · cases h; exact ⟨Tryz.f110, Tryz.func110, irOk110, by kernel_rfl⟩
  · cases h; exact ⟨Tryz.f111, Tryz.func111, irOk111, by kernel_rfl⟩
  · cases h; exact ⟨Tryz.f112, Tryz.func112, irOk112, by kernel_rfl⟩
  · cases h; exact ⟨Tryz.f113, Tryz.func113, irOk113, by kernel_rfl⟩
  · cases h; exact ⟨Tryz.f114, Tryz.func114, irOk114, by kernel_rfl⟩
  · cases h; exact ⟨Tryz.f115, Tryz.func115, irOk115, by kernel_rfl⟩
  · cases h; exact ⟨Tryz.f116, Tryz.func116, irOk116, by kernel_rfl⟩
  · cases h; exact ⟨Tryz.f117, Tryz.func117, irOk117, by kernel_rfl⟩
  · cases h; exact ⟨Tryz.f123, Tryz.func123, irOk123, by kernel_rfl⟩
  · cases h; exact ⟨Tryz.f125, Tryz.func125, irOk125, by kernel_rfl⟩
  · cases h
theorem linkedC : Linked Tryz.prog sq ⟨0, fnC, fun _ _ _ _ _ => False⟩ := by
  intro f bfn h
  simp only [fnC] at h
  split at h
  · cases h; exact ⟨Tryz.f126, Tryz.func126, irOk126, by kernel_rfl⟩
  · cases h; exact ⟨Tryz.f127, Tryz.func127, irOk127, by kernel_rfl⟩
  · cases h; exact ⟨Tryz.f134, Tryz.func134, irOk134, by kernel_rfl⟩
  · cases h; exact ⟨Tryz.f135, Tryz.func135, irOk135, by kernel_rfl⟩
  · cases h; exact ⟨Tryz.f136, Tryz.func136, irOk136, by kernel_rfl⟩
  · cases h; exact ⟨Tryz.f137, Tryz.func137, irOk137, by kernel_rfl⟩
  · cases h; exact ⟨Tryz.f138, Tryz.func138, irOk138, by kernel_rfl⟩
  · cases h; exact ⟨Tryz.f139, Tryz.func139, irOk139, by kernel_rfl⟩
  · cases h; exact ⟨Tryz.f144, Tryz.func144, irOk144, by kernel_rfl⟩
  · cases h; exact ⟨Tryz.f145, Tryz.func145, irOk145, by kernel_rfl⟩
  · cases h; exact ⟨Tryz.f147, Tryz.func147, irOk147, by kernel_rfl⟩
  · cases h; exact ⟨Tryz.f148, Tryz.func148, irOk148, by kernel_rfl⟩
  · cases h; exact ⟨Tryz.f156, Tryz.func156, irOk156, by kernel_rfl⟩
  · cases h; exact ⟨Tryz.f158, Tryz.func158, irOk158, by kernel_rfl⟩
  · cases h; exact ⟨Tryz.f159, Tryz.func159, irOk159, by kernel_rfl⟩
  · cases h; exact ⟨Tryz.f162, Tryz.func162, irOk162, by kernel_rfl⟩
  · cases h; exact ⟨Tryz.f163, Tryz.func163, irOk163, by kernel_rfl⟩
  · cases h; exact ⟨Tryz.f164, Tryz.func164, irOk164, by kernel_rfl⟩
  · cases h; exact ⟨Tryz.f167, Tryz.func167, irOk167, by kernel_rfl⟩
  · cases h; exact ⟨Tryz.f168, Tryz.func168, irOk168, by kernel_rfl⟩
  · cases h; exact ⟨Tryz.f169, Tryz.func169, irOk169, by kernel_rfl⟩
  · cases h; exact ⟨Tryz.f170, Tryz.func170, irOk170, by kernel_rfl⟩
  · cases h; exact ⟨Tryz.f171, Tryz.func171, irOk171, by kernel_rfl⟩
  · cases h; exact ⟨Tryz.f173, Tryz.func173, irOk173, by kernel_rfl⟩
  · cases h; exact ⟨Tryz.f174, Tryz.func174, irOk174, by kernel_rfl⟩
  · cases h; exact ⟨Tryz.f176, Tryz.func176, irOk176, by kernel_rfl⟩
  · cases h; exact ⟨Tryz.f177, Tryz.func177, irOk177, by kernel_rfl⟩
  · cases h; exact ⟨Tryz.f178, Tryz.func178, irOk178, by kernel_rfl⟩
  · cases h; exact ⟨Tryz.f179, Tryz.func179, irOk179, by kernel_rfl⟩
  · cases h; exact ⟨Tryz.f180, Tryz.func180, irOk180, by kernel_rfl⟩
  · cases h; exact ⟨Tryz.f181, Tryz.func181, irOk181, by kernel_rfl⟩
  · cases h; exact ⟨Tryz.f194, Tryz.func194, irOk194, by kernel_rfl⟩
  · cases h; exact ⟨Tryz.f195, Tryz.func195, irOk195, by kernel_rfl⟩
  · cases h; exact ⟨Tryz.f197, Tryz.func197, irOk197, by kernel_rfl⟩
  · cases h; exact ⟨Tryz.f200, Tryz.func200, irOk200, by kernel_rfl⟩
  · cases h
theorem linkedD : Linked Tryz.prog sq ⟨0, fnD, fun _ _ _ _ _ => False⟩ := by
  intro f bfn h
  simp only [fnD] at h
  split at h
  · cases h; exact ⟨Tryz.f202, Tryz.func202, irOk202, by kernel_rfl⟩
  · cases h; exact ⟨Tryz.f203, Tryz.func203, irOk203, by kernel_rfl⟩
  · cases h; exact ⟨Tryz.f204, Tryz.func204, irOk204, by kernel_rfl⟩
  · cases h; exact ⟨Tryz.f205, Tryz.func205, irOk205, by kernel_rfl⟩
  · cases h; exact ⟨Tryz.f207, Tryz.func207, irOk207, by kernel_rfl⟩
  · cases h; exact ⟨Tryz.f208, Tryz.func208, irOk208, by kernel_rfl⟩
  · cases h
theorem linked (base : Nat) : Linked Tryz.prog sq (gam base) := by
  intro f bfn h
  have h : fnOf f = some bfn := h
  unfold fnOf at h
  split at h
  · next x hx => exact linkedA f bfn (by cases h; exact hx)
  split at h
  · next x hx => exact linkedB f bfn (by cases h; exact hx)
  split at h
  · next x hx => exact linkedC f bfn (by cases h; exact hx)
  exact linkedD f bfn h
end Go.Proofs.YtcnkhkmapgbodaaGreatDoor.W
end
