/-
The functions, as the machine B has them.
-/
import Derived.Test.YtkmlmkbpdldjgaaDoorB19
import Derived.Test.YtkmlmkbpdldjgaaDoorProg
import Derived.KernelRfl
namespace Go.Proofs.YtkmlmkbpdldjgaaDoor.W
set_option linter.unusedVariables false
open Go.B
noncomputable def sq (t : Nat) : Bool := !Tryd.prog.stoodInHeld t && !Tryd.prog.eqGuardType Tryd.prog.depth t
theorem sqOk (t : Nat) (h : sq t = true) : Tryd.prog.stoodInHeld t = false ∧ Tryd.prog.eqGuardType Tryd.prog.depth t = false := by
  simpa [sq] using h
def ir3 : BFun := ⟨[(.tmp 2)], (.seq (.region [⟨(some 2), (.mov (.c (.bool false))), none, []⟩]) (.seq (.seq (.region [⟨(some 7), (.mov (.t 0)), none, []⟩, ⟨(some 8), (.len 0 (.t 7)), none, []⟩, ⟨(some 9), (.bin .gtr (.t 8) (.c (.int .i64
  1048576))), none, []⟩]) (.cond (.t 9) (.seq (.region [⟨(some 2), (.mov (.c (.bool true))), none, []⟩]) .ret) .skip)) (.seq (.region [⟨(some 11), (.mov (.t 0)), none, []⟩, ⟨(some 12), (.call (.c (.fn 4 [])) [(.t 11)]), none, []⟩, ⟨(some
  10), (.mov (.t 12)), none, []⟩, ⟨(some 13), (.ext 0 (.t 10)), none, []⟩, ⟨(some 14), (.ext 1 (.t 10)), none, []⟩, ⟨(some 3), (.mov (.t 13)), none, []⟩, ⟨(some 4), (.mov (.t 14)), none, []⟩]) (.seq (.region [⟨(some 16), (.mov (.t 0)), none,
  []⟩, ⟨(some 17), (.call (.c (.fn 5 [])) [(.t 16)]), none, []⟩, ⟨(some 15), (.mov (.t 17)), none, []⟩, ⟨(some 18), (.ext 0 (.t 15)), none, []⟩, ⟨(some 19), (.ext 1 (.t 15)), none, []⟩, ⟨(some 5), (.mov (.t 18)), none, []⟩, ⟨(some 6), (.mov
  (.t 19)), none, []⟩]) (.seq (.seq (.region [⟨(some 20), (.mov (.t 5)), none, []⟩, ⟨(some 21), (.mov (.t 3)), none, []⟩, ⟨(some 22), (.bin .neq (.t 20) (.t 21)), none, []⟩, ⟨(some 23), (.mov (.t 22)), none, []⟩, ⟨(some 24), (.mov (.t 6)),
  (some (23, false)), []⟩, ⟨(some 25), (.mov (.t 4)), (some (23, false)), []⟩, ⟨(some 26), (.bin .neq (.t 24) (.t 25)), (some (23, false)), []⟩, ⟨(some 27), (.pick (.t 23) (.c (.bool true)) (.t 26)), none, []⟩]) (.cond (.t 27) (.seq (.region
  [⟨(some 2), (.mov (.c (.bool false))), none, []⟩]) .ret) .skip)) (.seq (.region [⟨(some 2), (.mov (.c (.bool true))), none, []⟩]) .ret))))))⟩
theorem irOk3 : compFun Tryd.prog.underlying Tryd.prog.info? sq Tryd.f3 = some ir3 := by kernel_rfl
def ir4 : BFun := ⟨[(.tmp 2), (.tmp 3)], (.seq (.region [⟨(some 2), (.mov (.c (.int .i64 0))), none, []⟩, ⟨(some 3), (.mov (.c (.int .i64 0))), none, []⟩]) (.seq (.seq (.region [⟨(some 5), (.mov (.t 0)), none, []⟩, ⟨(some 6), (.call (.c (.fn
  6 [])) [(.t 5)]), none, []⟩, ⟨(some 7), (.not (.t 6)), none, []⟩]) (.cond (.t 7) (.seq (.region [⟨(some 2), (.mov (.c (.int .i64 0))), none, []⟩, ⟨(some 3), (.mov (.c (.int .i64 1))), none, []⟩]) .ret) .skip)) (.seq (.seq (.region [⟨(some
  8), (.mov (.t 0)), none, []⟩, ⟨(some 9), (.len 0 (.t 8)), none, []⟩, ⟨(some 10), (.bin .gtr (.t 9) (.c (.int .i64 0))), none, []⟩, ⟨(some 11), (.mov (.t 10)), none, []⟩, ⟨(some 12), (.mov (.t 0)), (some (11, true)), []⟩, ⟨(some 13), (.mov
  (.t 0)), (some (11, true)), []⟩, ⟨(some 14), (.len 0 (.t 13)), (some (11, true)), []⟩, ⟨(some 15), (.bin .sub (.t 14) (.c (.int .i64 1))), (some (11, true)), []⟩, ⟨(some 16), (.idxs (.t 12) (.t 15)), (some (11, true)), []⟩, ⟨(some 17),
  (.bin .eql (.t 16) (.c (.int .u8 97))), (some (11, true)), []⟩, ⟨(some 18), (.pick (.t 11) (.t 17) (.c (.bool false))), none, []⟩]) (.cond (.t 18) (.seq (.region [⟨(some 2), (.mov (.c (.int .i64 0))), none, []⟩, ⟨(some 3), (.mov (.c (.int
  .i64 4))), none, []⟩]) .ret) .skip)) (.seq (.region [⟨(some 19), (.mov (.t 0)), none, []⟩, ⟨(some 20), (.call (.c (.fn 7 [])) [(.t 19)]), none, []⟩, ⟨(some 4), (.mov (.t 20)), none, []⟩]) (.seq (.seq (.region [⟨(some 21), (.mov (.t 4)),
  none, []⟩, ⟨(some 22), (.bin .gtr (.t 21) (.c (.int .i64 1000000000))), none, []⟩]) (.cond (.t 22) (.seq (.region [⟨(some 2), (.mov (.c (.int .i64 0))), none, []⟩, ⟨(some 3), (.mov (.c (.int .i64 2))), none, []⟩]) .ret) .skip)) (.seq
  (.region [⟨(some 23), (.mov (.t 4)), none, []⟩, ⟨(some 2), (.mov (.t 23)), none, []⟩, ⟨(some 3), (.mov (.c (.int .i64 0))), none, []⟩]) .ret))))))⟩
theorem irOk4 : compFun Tryd.prog.underlying Tryd.prog.info? sq Tryd.f4 = some ir4 := by kernel_rfl
def ir5 : BFun := ⟨[(.tmp 2), (.tmp 3)], (.seq (.region [⟨(some 2), (.mov (.c (.int .i64 0))), none, []⟩, ⟨(some 3), (.mov (.c (.int .i64 0))), none, []⟩]) (.seq (.block 0 (.seq (.region [⟨(some 6), (.mov (.t 0)), none, []⟩, ⟨(some 7),
  (.call (.c (.fn 8 [])) [(.t 6)]), none, []⟩, ⟨(some 8), (.not (.t 7)), none, []⟩, ⟨(some 5), (.mov (.t 8)), none, []⟩]) (.cond (.t 5) (.seq (.region [⟨(some 2), (.mov (.c (.int .i64 0))), none, []⟩, ⟨(some 3), (.mov (.c (.int .i64 1))),
  none, []⟩]) .ret) (.seq (.region [⟨(some 10), (.mov (.t 0)), none, []⟩, ⟨(some 11), (.call (.c (.fn 9 [])) [(.t 10), (.c (.str ⟨#[97]⟩))]), none, []⟩, ⟨(some 9), (.mov (.t 11)), none, []⟩]) (.cond (.t 9) (.seq (.region [⟨(some 2), (.mov
  (.c (.int .i64 0))), none, []⟩, ⟨(some 3), (.mov (.c (.int .i64 4))), none, []⟩]) .ret) .skip))))) (.seq (.region [⟨(some 12), (.mov (.t 0)), none, []⟩, ⟨(some 13), (.call (.c (.fn 10 [])) [(.t 12)]), none, []⟩, ⟨(some 4), (.mov (.t 13)),
  none, []⟩]) (.seq (.seq (.region [⟨(some 14), (.mov (.t 4)), none, []⟩, ⟨(some 15), (.call (.c (.fn 11 [])) [(.t 14)]), none, []⟩, ⟨(some 16), (.not (.t 15)), none, []⟩]) (.cond (.t 16) (.seq (.region [⟨(some 2), (.mov (.c (.int .i64 0))),
  none, []⟩, ⟨(some 3), (.mov (.c (.int .i64 2))), none, []⟩]) .ret) .skip)) (.seq (.region [⟨(some 17), (.mov (.t 4)), none, []⟩, ⟨(some 2), (.mov (.t 17)), none, []⟩, ⟨(some 3), (.mov (.c (.int .i64 0))), none, []⟩]) .ret)))))⟩
theorem irOk5 : compFun Tryd.prog.underlying Tryd.prog.info? sq Tryd.f5 = some ir5 := by kernel_rfl
def ir6 : BFun := ⟨[(.tmp 2)], (.seq (.region [⟨(some 2), (.mov (.c (.bool false))), none, []⟩]) (.seq (.seq (.region [⟨(some 3), (.mov (.c (.int .i64 0))), none, []⟩]) (.block 0 (.loop (.seq (.seq (.region [⟨(some 4), (.mov (.t 3)), none,
  []⟩, ⟨(some 5), (.mov (.t 0)), none, []⟩, ⟨(some 6), (.len 0 (.t 5)), none, []⟩, ⟨(some 7), (.bin .lss (.t 4) (.t 6)), none, []⟩]) (.cond (.t 7) .skip (.exit 0))) (.seq (.block 1 (.seq (.region [⟨(some 10), (.mov (.t 0)), none, []⟩, ⟨(some
  11), (.mov (.t 3)), none, []⟩, ⟨(some 12), (.idxs (.t 10) (.t 11)), none, []⟩, ⟨(some 13), (.bin .neq (.t 12) (.c (.int .u8 97))), none, []⟩, ⟨(some 14), (.mov (.t 13)), none, []⟩, ⟨(some 15), (.mov (.t 0)), (some (14, true)), []⟩, ⟨(some
  16), (.mov (.t 3)), (some (14, true)), []⟩, ⟨(some 17), (.idxs (.t 15) (.t 16)), (some (14, true)), []⟩, ⟨(some 18), (.bin .neq (.t 17) (.c (.int .u8 98))), (some (14, true)), []⟩, ⟨(some 19), (.pick (.t 14) (.t 18) (.c (.bool false))),
  none, []⟩]) (.cond (.t 19) (.seq (.region [⟨(some 2), (.mov (.c (.bool false))), none, []⟩]) .ret) .skip))) (.region [⟨(some 8), (.mov (.t 3)), none, []⟩, ⟨(some 9), (.bin .add (.t 8) (.c (.int .i64 1))), none, []⟩, ⟨(some 3), (.mov (.t
  9)), none, []⟩])))))) (.seq (.region [⟨(some 20), (.mov (.t 0)), none, []⟩, ⟨(some 21), (.len 0 (.t 20)), none, []⟩, ⟨(some 22), (.bin .leq (.t 21) (.c (.int .i64 40))), none, []⟩, ⟨(some 2), (.mov (.t 22)), none, []⟩]) .ret)))⟩
theorem irOk6 : compFun Tryd.prog.underlying Tryd.prog.info? sq Tryd.f6 = some ir6 := by kernel_rfl
def ir7 : BFun := ⟨[(.tmp 2)], (.seq (.region [⟨(some 2), (.mov (.c (.int .i64 0))), none, []⟩]) (.seq (.region [⟨(some 3), (.mov (.c (.int .i64 0))), none, []⟩]) (.seq (.seq (.region [⟨(some 5), (.mov (.t 0)), none, []⟩, ⟨(some 6), (.len 0
  (.t 5)), none, []⟩, ⟨(some 7), (.bin .sub (.t 6) (.c (.int .i64 1))), none, []⟩, ⟨(some 4), (.mov (.t 7)), none, []⟩]) (.block 0 (.loop (.seq (.seq (.region [⟨(some 8), (.mov (.t 4)), none, []⟩, ⟨(some 9), (.bin .geq (.t 8) (.c (.int .i64
  0))), none, []⟩]) (.cond (.t 9) .skip (.exit 0))) (.seq (.block 1 (.region [⟨(some 12), (.mov (.t 3)), none, []⟩, ⟨(some 13), (.bin .mul (.c (.int .i64 2)) (.t 12)), none, []⟩, ⟨(some 14), (.mov (.t 0)), none, []⟩, ⟨(some 15), (.mov (.t
  4)), none, []⟩, ⟨(some 16), (.idxs (.t 14) (.t 15)), none, []⟩, ⟨(some 17), (.bin .sub (.t 16) (.c (.int .u8 97))), none, []⟩, ⟨(some 18), (.conv .i64 (.t 17)), none, []⟩, ⟨(some 19), (.bin .add (.t 13) (.t 18)), none, []⟩, ⟨(some 3),
  (.mov (.t 19)), none, []⟩])) (.region [⟨(some 10), (.mov (.t 4)), none, []⟩, ⟨(some 11), (.bin .sub (.t 10) (.c (.int .i64 1))), none, []⟩, ⟨(some 4), (.mov (.t 11)), none, []⟩])))))) (.seq (.region [⟨(some 20), (.mov (.t 3)), none, []⟩,
  ⟨(some 2), (.mov (.t 20)), none, []⟩]) .ret))))⟩
theorem irOk7 : compFun Tryd.prog.underlying Tryd.prog.info? sq Tryd.f7 = some ir7 := by kernel_rfl
def ir8 : BFun := ⟨[(.tmp 2)], (.seq (.region [⟨(some 2), (.mov (.c (.bool false))), none, []⟩]) (.seq (.region [⟨(some 3), (.mov (.t 0)), none, []⟩, ⟨(some 4), (.len 0 (.t 3)), none, []⟩, ⟨(some 5), (.bin .leq (.t 4) (.c (.int .i64 40))),
  none, []⟩, ⟨(some 6), (.mov (.t 5)), none, []⟩, ⟨(some 7), (.mov (.t 0)), (some (6, true)), []⟩, ⟨(some 8), (.call (.c (.fn 12 [])) [(.t 7), (.c (.str ⟨#[97, 98]⟩))]), (some (6, true)), []⟩, ⟨(some 9), (.bin .eql (.t 8) (.c (.str ⟨#[]⟩))),
  (some (6, true)), []⟩, ⟨(some 10), (.pick (.t 6) (.t 9) (.c (.bool false))), none, []⟩, ⟨(some 2), (.mov (.t 10)), none, []⟩]) .ret))⟩
theorem irOk8 : compFun Tryd.prog.underlying Tryd.prog.info? sq Tryd.f8 = some ir8 := by kernel_rfl
def ir9 : BFun := ⟨[(.tmp 4)], (.seq (.region [⟨(some 4), (.mov (.c (.bool false))), none, []⟩]) (.seq (.region [⟨(some 5), (.mov (.t 0)), none, []⟩, ⟨(some 6), (.mov (.t 1)), none, []⟩, ⟨(some 7), (.call (.c (.fn 13 [])) [(.t 5), (.t 6)]),
  none, []⟩, ⟨(some 4), (.mov (.t 7)), none, []⟩]) .ret))⟩
theorem irOk9 : compFun Tryd.prog.underlying Tryd.prog.info? sq Tryd.f9 = some ir9 := by kernel_rfl
def ir10 : BFun := ⟨[(.tmp 2)], (.seq (.region [⟨(some 2), (.mov (.c (.int .i64 0))), none, []⟩]) (.seq (.region [⟨(some 3), (.mov (.c (.int .i64 0))), none, []⟩]) (.seq (.seq (.region [⟨(some 5), (.mov (.t 0)), none, []⟩, ⟨(some 6), (.len 0
  (.t 5)), none, []⟩, ⟨(some 7), (.bin .sub (.t 6) (.c (.int .i64 1))), none, []⟩, ⟨(some 4), (.mov (.t 7)), none, []⟩]) (.block 0 (.loop (.seq (.seq (.region [⟨(some 8), (.mov (.t 4)), none, []⟩, ⟨(some 9), (.bin .geq (.t 8) (.c (.int .i64
  0))), none, []⟩]) (.cond (.t 9) .skip (.exit 0))) (.seq (.block 1 (.region [⟨(some 12), (.mov (.t 3)), none, []⟩, ⟨(some 13), (.bin .mul (.c (.int .i64 2)) (.t 12)), none, []⟩, ⟨(some 14), (.mov (.t 0)), none, []⟩, ⟨(some 15), (.mov (.t
  4)), none, []⟩, ⟨(some 16), (.idxs (.t 14) (.t 15)), none, []⟩, ⟨(some 17), (.bin .sub (.t 16) (.c (.int .u8 97))), none, []⟩, ⟨(some 18), (.conv .i64 (.t 17)), none, []⟩, ⟨(some 19), (.bin .add (.t 13) (.t 18)), none, []⟩, ⟨(some 3),
  (.mov (.t 19)), none, []⟩])) (.region [⟨(some 10), (.mov (.t 4)), none, []⟩, ⟨(some 11), (.bin .sub (.t 10) (.c (.int .i64 1))), none, []⟩, ⟨(some 4), (.mov (.t 11)), none, []⟩])))))) (.seq (.region [⟨(some 20), (.mov (.t 3)), none, []⟩,
  ⟨(some 2), (.mov (.t 20)), none, []⟩]) .ret))))⟩
theorem irOk10 : compFun Tryd.prog.underlying Tryd.prog.info? sq Tryd.f10 = some ir10 := by kernel_rfl
def ir11 : BFun := ⟨[(.tmp 2)], (.seq (.region [⟨(some 2), (.mov (.c (.bool false))), none, []⟩]) (.seq (.region [⟨(some 3), (.mov (.t 0)), none, []⟩, ⟨(some 4), (.call (.c (.fn 14 [])) [(.t 3), (.c (.int .i64 0)), (.c (.int .i64
  1000000000))]), none, []⟩, ⟨(some 2), (.mov (.t 4)), none, []⟩]) .ret))⟩
theorem irOk11 : compFun Tryd.prog.underlying Tryd.prog.info? sq Tryd.f11 = some ir11 := by kernel_rfl
def ir12 : BFun := ⟨[(.tmp 4)], (.seq (.region [⟨(some 4), (.mov (.c (.str ⟨#[]⟩))), none, []⟩]) (.seq (.seq (.region [⟨(some 7), (.mov (.t 0)), none, []⟩, ⟨(some 8), (.bin .eql (.t 7) (.c (.str ⟨#[]⟩))), none, []⟩, ⟨(some 9), (.mov (.t 8)),
  none, []⟩, ⟨(some 10), (.mov (.t 1)), (some (9, false)), []⟩, ⟨(some 11), (.bin .eql (.t 10) (.c (.str ⟨#[]⟩))), (some (9, false)), []⟩, ⟨(some 12), (.pick (.t 9) (.c (.bool true)) (.t 11)), none, []⟩]) (.cond (.t 12) (.seq (.region
  [⟨(some 13), (.mov (.t 0)), none, []⟩, ⟨(some 4), (.mov (.t 13)), none, []⟩]) .ret) .skip)) (.seq (.seq (.region [⟨(some 14), (.mov (.t 1)), none, []⟩, ⟨(some 15), (.len 0 (.t 14)), none, []⟩, ⟨(some 16), (.bin .eql (.t 15) (.c (.int .i64
  1))), none, []⟩, ⟨(some 17), (.mov (.t 16)), none, []⟩, ⟨(some 18), (.mov (.t 1)), (some (17, true)), []⟩, ⟨(some 19), (.idxs (.t 18) (.c (.int .i64 0))), (some (17, true)), []⟩, ⟨(some 20), (.bin .lss (.t 19) (.c (.int .u8 128))), (some
  (17, true)), []⟩, ⟨(some 21), (.pick (.t 17) (.t 20) (.c (.bool false))), none, []⟩]) (.cond (.t 21) (.seq (.region [⟨(some 22), (.mov (.t 0)), none, []⟩, ⟨(some 23), (.mov (.t 1)), none, []⟩, ⟨(some 24), (.idxs (.t 23) (.c (.int .i64
  0))), none, []⟩, ⟨(some 26), (.mov (.t 1)), none, []⟩, ⟨(some 27), (.idxs (.t 26) (.c (.int .i64 0))), none, []⟩, ⟨(some 25), (.call (.c (.fn 16 [])) [(.t 22), (.t 24)]), none, []⟩, ⟨(some 28), (.call (.c (.fn 15 [])) [(.t 25), (.t 27)]),
  none, []⟩, ⟨(some 4), (.mov (.t 28)), none, []⟩]) .ret) .skip)) (.seq (.seq (.region [⟨(some 30), (.mov (.t 1)), none, []⟩, ⟨(some 31), (.call (.c (.fn 17 [])) [(.t 30)]), none, []⟩, ⟨(some 29), (.mov (.t 31)), none, []⟩, ⟨(some 32), (.ext
  0 (.t 29)), none, []⟩, ⟨(some 33), (.ext 1 (.t 29)), none, []⟩, ⟨(some 5), (.new 32 [(.bool false), (.bool false), (.bool false), (.bool false), (.bool false), (.bool false), (.bool false), (.bool false), (.bool false), (.bool false),
  (.bool false), (.bool false), (.bool false), (.bool false), (.bool false), (.bool false), (.bool false), (.bool false), (.bool false), (.bool false), (.bool false), (.bool false), (.bool false), (.bool false), (.bool false), (.bool false),
  (.bool false), (.bool false), (.bool false), (.bool false), (.bool false), (.bool false), (.bool false), (.bool false), (.bool false), (.bool false), (.bool false), (.bool false), (.bool false), (.bool false), (.bool false), (.bool false),
  (.bool false), (.bool false), (.bool false), (.bool false), (.bool false), (.bool false), (.bool false), (.bool false), (.bool false), (.bool false), (.bool false), (.bool false), (.bool false), (.bool false), (.bool false), (.bool false),
  (.bool false), (.bool false), (.bool false), (.bool false), (.bool false), (.bool false), (.bool false), (.bool false), (.bool false), (.bool false), (.bool false), (.bool false), (.bool false), (.bool false), (.bool false), (.bool false),
  (.bool false), (.bool false), (.bool false), (.bool false), (.bool false), (.bool false), (.bool false), (.bool false), (.bool false), (.bool false), (.bool false), (.bool false), (.bool false), (.bool false), (.bool false), (.bool false),
  (.bool false), (.bool false), (.bool false), (.bool false), (.bool false), (.bool false), (.bool false), (.bool false), (.bool false), (.bool false), (.bool false), (.bool false), (.bool false), (.bool false), (.bool false), (.bool false),
  (.bool false), (.bool false), (.bool false), (.bool false), (.bool false), (.bool false), (.bool false), (.bool false), (.bool false), (.bool false), (.bool false), (.bool false), (.bool false), (.bool false), (.bool false), (.bool false),
  (.bool false), (.bool false), (.bool false), (.bool false), (.bool false), (.bool false), (.bool false), (.bool false), (.bool false), (.bool false), (.bool false), (.bool false), (.bool false), (.bool false), (.bool false), (.bool false),
  (.bool false), (.bool false), (.bool false), (.bool false), (.bool false), (.bool false), (.bool false), (.bool false), (.bool false), (.bool false), (.bool false), (.bool false), (.bool false), (.bool false), (.bool false), (.bool false),
  (.bool false), (.bool false), (.bool false), (.bool false), (.bool false), (.bool false), (.bool false), (.bool false), (.bool false), (.bool false), (.bool false), (.bool false), (.bool false), (.bool false), (.bool false), (.bool false),
  (.bool false), (.bool false), (.bool false), (.bool false), (.bool false), (.bool false), (.bool false), (.bool false), (.bool false), (.bool false), (.bool false), (.bool false), (.bool false), (.bool false), (.bool false), (.bool false),
  (.bool false), (.bool false), (.bool false), (.bool false), (.bool false), (.bool false), (.bool false), (.bool false), (.bool false), (.bool false), (.bool false), (.bool false), (.bool false), (.bool false), (.bool false), (.bool false),
  (.bool false), (.bool false), (.bool false), (.bool false), (.bool false), (.bool false), (.bool false), (.bool false), (.bool false), (.bool false), (.bool false), (.bool false), (.bool false), (.bool false), (.bool false), (.bool false),
  (.bool false), (.bool false), (.bool false), (.bool false), (.bool false), (.bool false), (.bool false), (.bool false), (.bool false), (.bool false), (.bool false), (.bool false), (.bool false), (.bool false), (.bool false), (.bool false),
  (.bool false), (.bool false), (.bool false), (.bool false), (.bool false), (.bool false), (.bool false), (.bool false), (.bool false), (.bool false), (.bool false), (.bool false), (.bool false), (.bool false), (.bool false), (.bool false),
  (.bool false), (.bool false), (.bool false), (.bool false), (.bool false), (.bool false)]), none, []⟩, ⟨none, (.store none 256 (.t 5) (.t 32)), none, []⟩, ⟨(some 6), (.mov (.t 33)), none, []⟩]) (.seq (.region [⟨(some 34), (.mov (.t 6)),
  none, []⟩]) (.cond (.t 34) (.seq (.region [⟨(some 35), (.mov (.t 0)), none, []⟩, ⟨(some 36), (.call (.c (.fn 19 [])) [(.t 35), (.t 5)]), none, []⟩, ⟨(some 37), (.call (.c (.fn 18 [])) [(.t 36), (.t 5)]), none, []⟩, ⟨(some 4), (.mov (.t
  37)), none, []⟩]) .ret) .skip))) (.seq (.region [⟨(some 38), (.mov (.t 0)), none, []⟩, ⟨(some 39), (.mov (.t 1)), none, []⟩, ⟨(some 40), (.call (.c (.fn 21 [])) [(.t 38), (.t 39)]), none, []⟩, ⟨(some 41), (.mov (.t 1)), none, []⟩, ⟨(some
  42), (.call (.c (.fn 20 [])) [(.t 40), (.t 41)]), none, []⟩, ⟨(some 4), (.mov (.t 42)), none, []⟩]) .ret)))))⟩
theorem irOk12 : compFun Tryd.prog.underlying Tryd.prog.info? sq Tryd.f12 = some ir12 := by kernel_rfl
def ir13 : BFun := ⟨[(.tmp 4)], (.seq (.region [⟨(some 4), (.mov (.c (.bool false))), none, []⟩]) (.seq (.region [⟨(some 5), (.mov (.t 0)), none, []⟩, ⟨(some 6), (.len 0 (.t 5)), none, []⟩, ⟨(some 7), (.mov (.t 1)), none, []⟩, ⟨(some 8),
  (.len 0 (.t 7)), none, []⟩, ⟨(some 9), (.bin .geq (.t 6) (.t 8)), none, []⟩, ⟨(some 10), (.mov (.t 9)), none, []⟩, ⟨(some 11), (.mov (.t 0)), (some (10, true)), []⟩, ⟨(some 12), (.mov (.t 0)), (some (10, true)), []⟩, ⟨(some 13), (.len 0
  (.t 12)), (some (10, true)), []⟩, ⟨(some 14), (.mov (.t 1)), (some (10, true)), []⟩, ⟨(some 15), (.len 0 (.t 14)), (some (10, true)), []⟩, ⟨(some 16), (.bin .sub (.t 13) (.t 15)), (some (10, true)), []⟩, ⟨(some 17), (.sslice (.t 11) (some
  (.t 16)) none), (some (10, true)), []⟩, ⟨(some 18), (.mov (.t 1)), (some (10, true)), []⟩, ⟨(some 19), (.bin .eql (.t 17) (.t 18)), (some (10, true)), []⟩, ⟨(some 20), (.pick (.t 10) (.t 19) (.c (.bool false))), none, []⟩, ⟨(some 4), (.mov
  (.t 20)), none, []⟩]) .ret))⟩
theorem irOk13 : compFun Tryd.prog.underlying Tryd.prog.info? sq Tryd.f13 = some ir13 := by kernel_rfl
def ir14 : BFun := ⟨[(.tmp 6)], (.seq (.region [⟨(some 6), (.mov (.c (.bool false))), none, []⟩]) (.seq (.region [⟨(some 7), (.mov (.t 1)), none, []⟩, ⟨(some 8), (.mov (.t 0)), none, []⟩, ⟨(some 9), (.bin .leq (.t 7) (.t 8)), none, []⟩,
  ⟨(some 10), (.mov (.t 9)), none, []⟩, ⟨(some 11), (.mov (.t 0)), (some (10, true)), []⟩, ⟨(some 12), (.mov (.t 2)), (some (10, true)), []⟩, ⟨(some 13), (.bin .leq (.t 11) (.t 12)), (some (10, true)), []⟩, ⟨(some 14), (.pick (.t 10) (.t 13)
  (.c (.bool false))), none, []⟩, ⟨(some 6), (.mov (.t 14)), none, []⟩]) .ret))⟩
theorem irOk14 : compFun Tryd.prog.underlying Tryd.prog.info? sq Tryd.f14 = some ir14 := by kernel_rfl
def ir17 : BFun := ⟨[(.cell 2 (some 256)), (.tmp 3)], (.seq (.region [⟨(some 2), (.new 32 [(.bool false), (.bool false), (.bool false), (.bool false), (.bool false), (.bool false), (.bool false), (.bool false), (.bool false), (.bool false),
  (.bool false), (.bool false), (.bool false), (.bool false), (.bool false), (.bool false), (.bool false), (.bool false), (.bool false), (.bool false), (.bool false), (.bool false), (.bool false), (.bool false), (.bool false), (.bool false),
  (.bool false), (.bool false), (.bool false), (.bool false), (.bool false), (.bool false), (.bool false), (.bool false), (.bool false), (.bool false), (.bool false), (.bool false), (.bool false), (.bool false), (.bool false), (.bool false),
  (.bool false), (.bool false), (.bool false), (.bool false), (.bool false), (.bool false), (.bool false), (.bool false), (.bool false), (.bool false), (.bool false), (.bool false), (.bool false), (.bool false), (.bool false), (.bool false),
  (.bool false), (.bool false), (.bool false), (.bool false), (.bool false), (.bool false), (.bool false), (.bool false), (.bool false), (.bool false), (.bool false), (.bool false), (.bool false), (.bool false), (.bool false), (.bool false),
  (.bool false), (.bool false), (.bool false), (.bool false), (.bool false), (.bool false), (.bool false), (.bool false), (.bool false), (.bool false), (.bool false), (.bool false), (.bool false), (.bool false), (.bool false), (.bool false),
  (.bool false), (.bool false), (.bool false), (.bool false), (.bool false), (.bool false), (.bool false), (.bool false), (.bool false), (.bool false), (.bool false), (.bool false), (.bool false), (.bool false), (.bool false), (.bool false),
  (.bool false), (.bool false), (.bool false), (.bool false), (.bool false), (.bool false), (.bool false), (.bool false), (.bool false), (.bool false), (.bool false), (.bool false), (.bool false), (.bool false), (.bool false), (.bool false),
  (.bool false), (.bool false), (.bool false), (.bool false), (.bool false), (.bool false), (.bool false), (.bool false), (.bool false), (.bool false), (.bool false), (.bool false), (.bool false), (.bool false), (.bool false), (.bool false),
  (.bool false), (.bool false), (.bool false), (.bool false), (.bool false), (.bool false), (.bool false), (.bool false), (.bool false), (.bool false), (.bool false), (.bool false), (.bool false), (.bool false), (.bool false), (.bool false),
  (.bool false), (.bool false), (.bool false), (.bool false), (.bool false), (.bool false), (.bool false), (.bool false), (.bool false), (.bool false), (.bool false), (.bool false), (.bool false), (.bool false), (.bool false), (.bool false),
  (.bool false), (.bool false), (.bool false), (.bool false), (.bool false), (.bool false), (.bool false), (.bool false), (.bool false), (.bool false), (.bool false), (.bool false), (.bool false), (.bool false), (.bool false), (.bool false),
  (.bool false), (.bool false), (.bool false), (.bool false), (.bool false), (.bool false), (.bool false), (.bool false), (.bool false), (.bool false), (.bool false), (.bool false), (.bool false), (.bool false), (.bool false), (.bool false),
  (.bool false), (.bool false), (.bool false), (.bool false), (.bool false), (.bool false), (.bool false), (.bool false), (.bool false), (.bool false), (.bool false), (.bool false), (.bool false), (.bool false), (.bool false), (.bool false),
  (.bool false), (.bool false), (.bool false), (.bool false), (.bool false), (.bool false), (.bool false), (.bool false), (.bool false), (.bool false), (.bool false), (.bool false), (.bool false), (.bool false), (.bool false), (.bool false),
  (.bool false), (.bool false), (.bool false), (.bool false), (.bool false), (.bool false), (.bool false), (.bool false), (.bool false), (.bool false), (.bool false), (.bool false), (.bool false), (.bool false), (.bool false), (.bool false),
  (.bool false), (.bool false), (.bool false), (.bool false), (.bool false), (.bool false)]), none, []⟩, ⟨(some 3), (.mov (.c (.bool false))), none, []⟩]) (.seq (.seq (.region [⟨(some 4), (.mov (.c (.int .i64 0))), none, []⟩]) (.block 0
  (.loop (.seq (.seq (.region [⟨(some 6), (.mov (.t 4)), none, []⟩, ⟨(some 7), (.mov (.t 0)), none, []⟩, ⟨(some 8), (.len 0 (.t 7)), none, []⟩, ⟨(some 9), (.bin .lss (.t 6) (.t 8)), none, []⟩]) (.cond (.t 9) .skip (.exit 0))) (.seq (.block 1
  (.seq (.region [⟨(some 12), (.mov (.t 0)), none, []⟩, ⟨(some 13), (.mov (.t 4)), none, []⟩, ⟨(some 14), (.idxs (.t 12) (.t 13)), none, []⟩, ⟨(some 5), (.mov (.t 14)), none, []⟩]) (.seq (.seq (.region [⟨(some 15), (.mov (.t 5)), none, []⟩,
  ⟨(some 16), (.bin .geq (.t 15) (.c (.int .u8 128))), none, []⟩]) (.cond (.t 16) (.seq (.region [⟨(some 17), (.load none (some 256) (.t 2)), none, []⟩, ⟨none, (.store none 256 (.t 2) (.t 17)), none, []⟩, ⟨(some 3), (.mov (.c (.bool
  false))), none, []⟩]) .ret) .skip)) (.region [⟨(some 18), (.mov (.t 5)), none, []⟩, ⟨(some 19), (.idxa 256 1 (.t 2) (.t 18)), none, []⟩, ⟨none, (.store none 1 (.t 19) (.c (.bool true))), none, []⟩])))) (.region [⟨(some 10), (.mov (.t 4)),
  none, []⟩, ⟨(some 11), (.bin .add (.t 10) (.c (.int .i64 1))), none, []⟩, ⟨(some 4), (.mov (.t 11)), none, []⟩])))))) (.seq (.region [⟨(some 20), (.load none (some 256) (.t 2)), none, []⟩, ⟨none, (.store none 256 (.t 2) (.t 20)), none,
  []⟩, ⟨(some 3), (.mov (.c (.bool true))), none, []⟩]) .ret)))⟩
theorem irOk17 : compFun Tryd.prog.underlying Tryd.prog.info? sq Tryd.f17 = some ir17 := by kernel_rfl
def ir18 : BFun := ⟨[(.tmp 4)], (.seq (.region [⟨(some 4), (.mov (.c (.str ⟨#[]⟩))), none, []⟩]) (.seq (.block 0 (.loop (.seq (.seq (.region [⟨(some 5), (.mov (.t 0)), none, []⟩, ⟨(some 6), (.len 0 (.t 5)), none, []⟩, ⟨(some 7), (.bin .gtr
  (.t 6) (.c (.int .i64 0))), none, []⟩]) (.cond (.t 7) .skip (.exit 0))) (.block 1 (.seq (.seq (.region [⟨(some 8), (.mov (.t 1)), none, []⟩, ⟨(some 9), (.mov (.t 0)), none, []⟩, ⟨(some 10), (.idxs (.t 9) (.c (.int .i64 0))), none, []⟩,
  ⟨(some 11), (.call (.c (.fn 22 [])) [(.t 8), (.t 10)]), none, []⟩, ⟨(some 12), (.not (.t 11)), none, []⟩]) (.cond (.t 12) (.exit 0) .skip)) (.region [⟨(some 13), (.mov (.t 0)), none, []⟩, ⟨(some 14), (.sslice (.t 13) (some (.c (.int .i64
  1))) none), none, []⟩, ⟨(some 0), (.mov (.t 14)), none, []⟩])))))) (.seq (.region [⟨(some 15), (.mov (.t 0)), none, []⟩, ⟨(some 4), (.mov (.t 15)), none, []⟩]) .ret)))⟩
theorem irOk18 : compFun Tryd.prog.underlying Tryd.prog.info? sq Tryd.f18 = some ir18 := by kernel_rfl
def ir19 : BFun := ⟨[(.tmp 4)], (.seq (.region [⟨(some 4), (.mov (.c (.str ⟨#[]⟩))), none, []⟩]) (.seq (.block 0 (.loop (.seq (.seq (.region [⟨(some 5), (.mov (.t 0)), none, []⟩, ⟨(some 6), (.len 0 (.t 5)), none, []⟩, ⟨(some 7), (.bin .gtr
  (.t 6) (.c (.int .i64 0))), none, []⟩]) (.cond (.t 7) .skip (.exit 0))) (.block 1 (.seq (.seq (.region [⟨(some 8), (.mov (.t 1)), none, []⟩, ⟨(some 9), (.mov (.t 0)), none, []⟩, ⟨(some 10), (.mov (.t 0)), none, []⟩, ⟨(some 11), (.len 0 (.t
  10)), none, []⟩, ⟨(some 12), (.bin .sub (.t 11) (.c (.int .i64 1))), none, []⟩, ⟨(some 13), (.idxs (.t 9) (.t 12)), none, []⟩, ⟨(some 14), (.call (.c (.fn 22 [])) [(.t 8), (.t 13)]), none, []⟩, ⟨(some 15), (.not (.t 14)), none, []⟩])
  (.cond (.t 15) (.exit 0) .skip)) (.region [⟨(some 16), (.mov (.t 0)), none, []⟩, ⟨(some 17), (.mov (.t 0)), none, []⟩, ⟨(some 18), (.len 0 (.t 17)), none, []⟩, ⟨(some 19), (.bin .sub (.t 18) (.c (.int .i64 1))), none, []⟩, ⟨(some 20),
  (.sslice (.t 16) none (some (.t 19))), none, []⟩, ⟨(some 0), (.mov (.t 20)), none, []⟩])))))) (.seq (.region [⟨(some 21), (.mov (.t 0)), none, []⟩, ⟨(some 4), (.mov (.t 21)), none, []⟩]) .ret)))⟩
theorem irOk19 : compFun Tryd.prog.underlying Tryd.prog.info? sq Tryd.f19 = some ir19 := by kernel_rfl
def ir22 : BFun := ⟨[(.tmp 4)], (.seq (.region [⟨(some 4), (.mov (.c (.bool false))), none, []⟩]) (.seq (.region [⟨(some 5), (.mov (.t 0)), none, []⟩, ⟨(some 6), (.mov (.t 1)), none, []⟩, ⟨(some 7), (.nilck (.t 5)), none, []⟩, ⟨(some 8),
  (.idxa 256 1 (.t 7) (.t 6)), none, []⟩, ⟨(some 9), (.load none none (.t 8)), none, []⟩, ⟨(some 4), (.mov (.t 9)), none, []⟩]) .ret))⟩
theorem irOk22 : compFun Tryd.prog.underlying Tryd.prog.info? sq Tryd.f22 = some ir22 := by kernel_rfl
def fnOf : Nat → Option BFun
  | 3 => some ir3
  | 4 => some ir4
  | 5 => some ir5
  | 6 => some ir6
  | 7 => some ir7
  | 8 => some ir8
  | 9 => some ir9
  | 10 => some ir10
  | 11 => some ir11
  | 12 => some ir12
  | 13 => some ir13
  | 14 => some ir14
  | 17 => some ir17
  | 18 => some ir18
  | 19 => some ir19
  | 22 => some ir22
  | _ => none
def gam (base : Nat) : Ctx := ⟨base, fnOf, fun _ _ _ _ _ => False⟩
theorem linked (base : Nat) : Linked Tryd.prog sq (gam base) := by
  intro f bfn h
  simp only [gam, fnOf] at h
  split at h
  · cases h; exact ⟨Tryd.f3, Tryd.func3, irOk3, by kernel_rfl⟩
  · cases h; exact ⟨Tryd.f4, Tryd.func4, irOk4, by kernel_rfl⟩
  · cases h; exact ⟨Tryd.f5, Tryd.func5, irOk5, by kernel_rfl⟩
  · cases h; exact ⟨Tryd.f6, Tryd.func6, irOk6, by kernel_rfl⟩
  · cases h; exact ⟨Tryd.f7, Tryd.func7, irOk7, by kernel_rfl⟩
  · cases h; exact ⟨Tryd.f8, Tryd.func8, irOk8, by kernel_rfl⟩
  · cases h; exact ⟨Tryd.f9, Tryd.func9, irOk9, by kernel_rfl⟩
  · cases h; exact ⟨Tryd.f10, Tryd.func10, irOk10, by kernel_rfl⟩
  · cases h; exact ⟨Tryd.f11, Tryd.func11, irOk11, by kernel_rfl⟩
  · cases h; exact ⟨Tryd.f12, Tryd.func12, irOk12, by kernel_rfl⟩
  · cases h; exact ⟨Tryd.f13, Tryd.func13, irOk13, by kernel_rfl⟩
  · cases h; exact ⟨Tryd.f14, Tryd.func14, irOk14, by kernel_rfl⟩
  · cases h; exact ⟨Tryd.f17, Tryd.func17, irOk17, by kernel_rfl⟩
  · cases h; exact ⟨Tryd.f18, Tryd.func18, irOk18, by kernel_rfl⟩
  · cases h; exact ⟨Tryd.f19, Tryd.func19, irOk19, by kernel_rfl⟩
  · cases h; exact ⟨Tryd.f22, Tryd.func22, irOk22, by kernel_rfl⟩
  · cases h
end Go.Proofs.YtkmlmkbpdldjgaaDoor.W
