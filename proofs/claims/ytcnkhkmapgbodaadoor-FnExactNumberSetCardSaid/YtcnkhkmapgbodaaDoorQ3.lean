/-
Texts of our own, put together: Ir.
-/
import Derived.Test.YtcnkhkmapgbodaaDoorQ2
import Derived.Test.YtcnkhkmapgbodaaDoorProg
import Derived.KernelRfl
section
namespace Go.Proofs.YtcnkhkmapgbodaaDoor.W
set_option linter.unusedVariables false
open Go.B
noncomputable def sq (t : Nat) : Bool := !Tryd.prog.stoodInHeld t && !Tryd.prog.eqGuardType Tryd.prog.depth t
theorem sqOk (t : Nat) (h : sq t = true) : Tryd.prog.stoodInHeld t = false ∧ Tryd.prog.eqGuardType Tryd.prog.depth t = false := by
  simpa [sq] using h
def ir6 : BFun := ⟨[(.tmp 2)], (.seq (.region [⟨(some 2), (.mov (.c (.bool false))), none, []⟩]) (.seq (.seq (.region [⟨(some 13), (.mov (.t 0)), none, []⟩, ⟨(some 14), (.len 1 (.t 13)), none, []⟩, ⟨(some 15), (.bin .gtr (.t 14) (.c (.int
  .i64 1048576))), none, []⟩]) (.cond (.t 15) (.seq (.region [⟨(some 2), (.mov (.c (.bool true))), none, []⟩]) .ret) .skip)) (.seq (.region [⟨(some 17), (.mov (.t 0)), none, []⟩, ⟨(some 18), (.call (.c (.fn 17 [])) [(.t 17)]), none, []⟩,
  ⟨(some 19), (.call (.c (.fn 16 [])) [(.t 18)]), none, []⟩, ⟨(some 16), (.mov (.t 19)), none, []⟩, ⟨(some 20), (.ext 0 (.t 16)), none, []⟩, ⟨(some 21), (.ext 1 (.t 16)), none, []⟩, ⟨(some 3), (.new 29 [(.int .i64 0), (.int .i64 0), .nils,
  .nils]), none, []⟩, ⟨none, (.store none 4 (.t 3) (.t 20)), none, []⟩, ⟨(some 4), (.mov (.t 21)), none, []⟩]) (.seq (.region [⟨(some 22), (.mov (.t 0)), none, []⟩, ⟨(some 23), (.call (.c (.fn 17 [])) [(.t 22)]), none, []⟩, ⟨(some 5), (.mov
  (.t 23)), none, []⟩]) (.seq (.region [⟨(some 25), (.mov (.t 5)), none, []⟩, ⟨(some 26), (.call (.c (.fn 18 [])) [(.t 25)]), none, []⟩, ⟨(some 24), (.mov (.t 26)), none, []⟩, ⟨(some 27), (.ext 0 (.t 24)), none, []⟩, ⟨(some 28), (.ext 1 (.t
  24)), none, []⟩, ⟨(some 6), (.new 29 [(.int .i64 0), (.int .i64 0), .nils, .nils]), none, []⟩, ⟨none, (.store none 4 (.t 6) (.t 27)), none, []⟩, ⟨(some 7), (.mov (.t 28)), none, []⟩]) (.seq (.seq (.region [⟨(some 29), (.load none (some 4)
  (.t 6)), none, []⟩, ⟨(some 30), (.load none (some 4) (.t 3)), none, []⟩, ⟨(some 31), (.call (.c (.fn 11 [])) [(.t 29), (.t 30)]), none, []⟩, ⟨(some 32), (.not (.t 31)), none, []⟩, ⟨(some 33), (.mov (.t 32)), none, []⟩, ⟨(some 34), (.mov
  (.t 7)), (some (33, false)), []⟩, ⟨(some 35), (.mov (.t 4)), (some (33, false)), []⟩, ⟨(some 36), (.bin .neq (.t 34) (.t 35)), (some (33, false)), []⟩, ⟨(some 37), (.pick (.t 33) (.c (.bool true)) (.t 36)), none, []⟩]) (.cond (.t 37) (.seq
  (.region [⟨(some 2), (.mov (.c (.bool false))), none, []⟩]) .ret) .skip)) (.seq (.seq (.region [⟨(some 38), (.mov (.t 5)), none, []⟩, ⟨(some 39), (.mov (.t 0)), none, []⟩, ⟨(some 40), (.call (.c (.fn 17 [])) [(.t 39)]), none, []⟩, ⟨(some
  41), (.call (.c (.fn 19 [])) [(.t 38), (.t 40)]), none, []⟩, ⟨(some 42), (.not (.t 41)), none, []⟩]) (.cond (.t 42) (.seq (.region [⟨(some 2), (.mov (.c (.bool false))), none, []⟩]) .ret) .skip)) (.seq (.region [⟨(some 8), (.mov (.c (.int
  .i64 1))), none, []⟩]) (.seq (.region [⟨(some 43), (.mov (.t 5)), none, []⟩, ⟨(some 44), (.mov (.t 8)), none, []⟩, ⟨(some 45), (.call (.c (.fn 20 [])) [(.t 43), (.t 44)]), none, []⟩, ⟨(some 8), (.mov (.t 45)), none, []⟩]) (.seq (.seq
  (.region [⟨(some 46), (.mov (.t 8)), none, []⟩, ⟨(some 47), (.bin .lss (.t 46) (.c (.int .i64 0))), none, []⟩, ⟨(some 48), (.mov (.t 47)), none, []⟩, ⟨(some 49), (.load none (some 4) (.t 6)), (some (48, false)), []⟩, ⟨(some 50), (.load
  none (some 4) (.t 3)), (some (48, false)), []⟩, ⟨(some 51), (.call (.c (.fn 11 [])) [(.t 49), (.t 50)]), (some (48, false)), []⟩, ⟨(some 52), (.not (.t 51)), (some (48, false)), []⟩, ⟨(some 53), (.pick (.t 48) (.c (.bool true)) (.t 52)),
  none, []⟩, ⟨(some 54), (.mov (.t 53)), none, []⟩, ⟨(some 55), (.mov (.t 7)), (some (54, false)), []⟩, ⟨(some 56), (.mov (.t 4)), (some (54, false)), []⟩, ⟨(some 57), (.bin .neq (.t 55) (.t 56)), (some (54, false)), []⟩, ⟨(some 58), (.pick
  (.t 54) (.c (.bool true)) (.t 57)), none, []⟩]) (.cond (.t 58) (.seq (.region [⟨(some 2), (.mov (.c (.bool false))), none, []⟩]) .ret) .skip)) (.seq (.region [⟨(some 9), (.mov (.c (.int .i64 1))), none, []⟩]) (.seq (.region [⟨(some 59),
  (.load none (some 4) (.t 6)), none, []⟩, ⟨(some 60), (.mov (.t 9)), none, []⟩, ⟨(some 61), (.call (.c (.fn 21 [])) [(.t 59), (.t 60)]), none, []⟩, ⟨(some 9), (.mov (.t 61)), none, []⟩]) (.seq (.region [⟨(some 10), (.mov (.c (.int .i64
  1))), none, []⟩]) (.seq (.region [⟨(some 62), (.load none (some 4) (.t 6)), none, []⟩, ⟨(some 63), (.mov (.t 10)), none, []⟩, ⟨(some 64), (.call (.c (.fn 22 [])) [(.t 62), (.t 63)]), none, []⟩, ⟨(some 10), (.mov (.t 64)), none, []⟩]) (.seq
  (.seq (.region [⟨(some 65), (.mov (.t 10)), none, []⟩, ⟨(some 66), (.bin .lss (.t 65) (.c (.int .i64 0))), none, []⟩]) (.cond (.t 66) (.seq (.region [⟨(some 2), (.mov (.c (.bool false))), none, []⟩]) .ret) .skip)) (.seq (.seq (.region
  [⟨(some 67), (.mov (.t 10)), none, []⟩, ⟨(some 68), (.mov (.t 9)), none, []⟩, ⟨(some 69), (.bin .neq (.t 67) (.t 68)), none, []⟩]) (.cond (.t 69) (.seq (.region [⟨(some 2), (.mov (.c (.bool false))), none, []⟩]) .ret) .skip)) (.seq
  (.region [⟨(some 71), (.mov (.t 0)), none, []⟩, ⟨(some 72), (.call (.c (.fn 17 [])) [(.t 71)]), none, []⟩, ⟨(some 73), (.call (.c (.fn 18 [])) [(.t 72)]), none, []⟩, ⟨(some 70), (.mov (.t 73)), none, []⟩, ⟨(some 74), (.ext 0 (.t 70)),
  none, []⟩, ⟨(some 75), (.ext 1 (.t 70)), none, []⟩, ⟨(some 11), (.new 29 [(.int .i64 0), (.int .i64 0), .nils, .nils]), none, []⟩, ⟨none, (.store none 4 (.t 11) (.t 74)), none, []⟩, ⟨(some 12), (.mov (.t 75)), none, []⟩]) (.seq (.seq
  (.region [⟨(some 76), (.load none (some 4) (.t 11)), none, []⟩, ⟨(some 77), (.load none (some 4) (.t 3)), none, []⟩, ⟨(some 78), (.call (.c (.fn 11 [])) [(.t 76), (.t 77)]), none, []⟩, ⟨(some 79), (.not (.t 78)), none, []⟩, ⟨(some 80),
  (.mov (.t 79)), none, []⟩, ⟨(some 81), (.mov (.t 12)), (some (80, false)), []⟩, ⟨(some 82), (.mov (.t 4)), (some (80, false)), []⟩, ⟨(some 83), (.bin .neq (.t 81) (.t 82)), (some (80, false)), []⟩, ⟨(some 84), (.pick (.t 80) (.c (.bool
  true)) (.t 83)), none, []⟩]) (.cond (.t 84) (.seq (.region [⟨(some 2), (.mov (.c (.bool false))), none, []⟩]) .ret) .skip)) (.seq (.region [⟨(some 10), (.mov (.c (.int .i64 1))), none, []⟩]) (.seq (.region [⟨(some 85), (.load none (some 4)
  (.t 6)), none, []⟩, ⟨(some 86), (.mov (.t 10)), none, []⟩, ⟨(some 87), (.call (.c (.fn 22 [])) [(.t 85), (.t 86)]), none, []⟩, ⟨(some 10), (.mov (.t 87)), none, []⟩]) (.seq (.seq (.region [⟨(some 88), (.mov (.t 10)), none, []⟩, ⟨(some 89),
  (.bin .lss (.t 88) (.c (.int .i64 0))), none, []⟩]) (.cond (.t 89) (.seq (.region [⟨(some 2), (.mov (.c (.bool false))), none, []⟩]) .ret) .skip)) (.seq (.seq (.region [⟨(some 90), (.mov (.t 10)), none, []⟩, ⟨(some 91), (.mov (.t 9)),
  none, []⟩, ⟨(some 92), (.bin .neq (.t 90) (.t 91)), none, []⟩]) (.cond (.t 92) (.seq (.region [⟨(some 2), (.mov (.c (.bool false))), none, []⟩]) .ret) .skip)) (.seq (.region [⟨(some 2), (.mov (.c (.bool true))), none, []⟩])
  .ret)))))))))))))))))))))))⟩
theorem irOk6 : compFun Tryd.prog.underlying Tryd.prog.info? sq Tryd.f6 = some ir6 := by kernel_rfl
def ir11 : BFun := ⟨[(.tmp 4)], (.seq (.region [⟨(some 2), (.box 29 (.t 0)), none, []⟩, ⟨(some 3), (.box 29 (.t 1)), none, []⟩, ⟨(some 4), (.mov (.c (.bool false))), none, []⟩]) (.seq (.seq (.region [⟨(some 5), (.lea 0 (.t 2)), none, []⟩,
  ⟨(some 6), (.load none none (.t 5)), none, []⟩, ⟨(some 7), (.lea 0 (.t 3)), none, []⟩, ⟨(some 8), (.load none none (.t 7)), none, []⟩, ⟨(some 9), (.bin .neq (.t 6) (.t 8)), none, []⟩]) (.cond (.t 9) (.seq (.region [⟨(some 4), (.mov (.c
  (.bool false))), none, []⟩]) .ret) .skip)) (.seq (.seq (.region [⟨(some 10), (.lea 1 (.t 2)), none, []⟩, ⟨(some 11), (.load none none (.t 10)), none, []⟩, ⟨(some 12), (.lea 1 (.t 3)), none, []⟩, ⟨(some 13), (.load none none (.t 12)), none,
  []⟩, ⟨(some 14), (.bin .neq (.t 11) (.t 13)), none, []⟩]) (.cond (.t 14) (.seq (.region [⟨(some 4), (.mov (.c (.bool false))), none, []⟩]) .ret) .skip)) (.seq (.seq (.region [⟨(some 15), (.lea 2 (.t 2)), none, []⟩, ⟨(some 16), (.load none
  none (.t 15)), none, []⟩, ⟨(some 17), (.lea 2 (.t 3)), none, []⟩, ⟨(some 18), (.load none none (.t 17)), none, []⟩, ⟨(some 19), (.call (.c (.fn 31 [])) [(.t 16), (.t 18)]), none, []⟩, ⟨(some 20), (.not (.t 19)), none, []⟩]) (.cond (.t 20)
  (.seq (.region [⟨(some 4), (.mov (.c (.bool false))), none, []⟩]) .ret) .skip)) (.seq (.seq (.region [⟨(some 21), (.lea 3 (.t 2)), none, []⟩, ⟨(some 22), (.load none none (.t 21)), none, []⟩, ⟨(some 23), (.lea 3 (.t 3)), none, []⟩, ⟨(some
  24), (.load none none (.t 23)), none, []⟩, ⟨(some 25), (.call (.c (.fn 32 [])) [(.t 22), (.t 24)]), none, []⟩, ⟨(some 26), (.not (.t 25)), none, []⟩]) (.cond (.t 26) (.seq (.region [⟨(some 4), (.mov (.c (.bool false))), none, []⟩]) .ret)
  .skip)) (.seq (.region [⟨(some 4), (.mov (.c (.bool true))), none, []⟩]) .ret))))))⟩
theorem irOk11 : compFun Tryd.prog.underlying Tryd.prog.info? sq Tryd.f11 = some ir11 := by kernel_rfl
def ir16 : BFun := ⟨[(.cell 2 (some 4)), (.tmp 3)], (.seq (.region [⟨(some 2), (.new 29 [(.int .i64 0), (.int .i64 0), .nils, .nils]), none, []⟩, ⟨(some 3), (.mov (.c (.int .i64 0))), none, []⟩]) (.seq (.region [⟨(some 6), (.mk 58 0 [] []),
  none, []⟩, ⟨(some 4), (.mov (.t 6)), none, []⟩]) (.seq (.seq (.region [⟨(some 5), (.mov (.c (.int .i64 0))), none, []⟩]) (.block 0 (.loop (.seq (.seq (.region [⟨(some 7), (.mov (.t 5)), none, []⟩, ⟨(some 8), (.mov (.t 0)), none, []⟩,
  ⟨(some 9), (.len 1 (.t 8)), none, []⟩, ⟨(some 10), (.bin .lss (.t 7) (.t 9)), none, []⟩]) (.cond (.t 10) .skip (.exit 0))) (.seq (.block 1 (.seq (.seq (.region [⟨(some 13), (.mov (.t 0)), none, []⟩, ⟨(some 14), (.mov (.t 5)), none, []⟩,
  ⟨(some 15), (.idx 1 (.t 13) (.t 14)), none, []⟩, ⟨(some 16), (.load none none (.t 15)), none, []⟩, ⟨(some 17), (.call (.c (.fn 34 [])) [(.t 16), (.c (.int .i64 0)), (.c (.int .i64 1000000000))]), none, []⟩, ⟨(some 18), (.not (.t 17)),
  none, []⟩]) (.cond (.t 18) (.seq (.region [⟨(some 19), (.build [(.int .i64 0), (.int .i64 0), .nils, .nils] []), none, []⟩, ⟨none, (.store none 4 (.t 2) (.t 19)), none, []⟩, ⟨(some 3), (.mov (.c (.int .i64 2))), none, []⟩]) .ret) .skip))
  (.region [⟨(some 20), (.mov (.t 4)), none, []⟩, ⟨(some 21), (.mov (.t 0)), none, []⟩, ⟨(some 22), (.mov (.t 5)), none, []⟩, ⟨(some 23), (.idx 1 (.t 21) (.t 22)), none, []⟩, ⟨(some 24), (.load none none (.t 23)), none, []⟩, ⟨(some 25),
  (.call (.c (.fn 36 [])) [(.t 24)]), none, []⟩, ⟨(some 26), (.mk 9 1 [(.str ⟨#[]⟩)] [(0, (1, (.t 25)))]), none, []⟩, ⟨(some 27), (.mk 58 1 [.nils] [(0, (1, (.t 26)))]), none, []⟩, ⟨(some 28), (.app 58 1 24 (.t 20) (.t 27)), none, []⟩,
  ⟨(some 4), (.mov (.t 28)), none, []⟩]))) (.region [⟨(some 11), (.mov (.t 5)), none, []⟩, ⟨(some 12), (.bin .add (.t 11) (.c (.int .i64 1))), none, []⟩, ⟨(some 5), (.mov (.t 12)), none, []⟩])))))) (.seq (.region [⟨(some 29), (.mov (.t 4)),
  none, []⟩, ⟨(some 30), (.call (.c (.fn 48 [])) [(.c (.int .i64 1)), (.t 29)]), none, []⟩, ⟨(some 31), (.ext 0 (.t 30)), none, []⟩, ⟨(some 32), (.ext 1 (.t 30)), none, []⟩, ⟨none, (.store none 4 (.t 2) (.t 31)), none, []⟩, ⟨(some 3), (.mov
  (.t 32)), none, []⟩]) .ret))))⟩
theorem irOk16 : compFun Tryd.prog.underlying Tryd.prog.info? sq Tryd.f16 = some ir16 := by kernel_rfl
def ir17 : BFun := ⟨[(.tmp 2)], (.seq (.region [⟨(some 2), (.mov (.c .nils)), none, []⟩]) (.seq (.region [⟨(some 5), (.mov (.t 0)), none, []⟩, ⟨(some 6), (.len 1 (.t 5)), none, []⟩, ⟨(some 7), (.mksl 2 8 [(.int .i64 0)] (.t 6) (.t 6)), none,
  []⟩, ⟨(some 3), (.mov (.t 7)), none, []⟩]) (.seq (.seq (.region [⟨(some 4), (.mov (.c (.int .i64 0))), none, []⟩]) (.block 0 (.loop (.seq (.seq (.region [⟨(some 8), (.mov (.t 4)), none, []⟩, ⟨(some 9), (.mov (.t 0)), none, []⟩, ⟨(some 10),
  (.len 1 (.t 9)), none, []⟩, ⟨(some 11), (.bin .lss (.t 8) (.t 10)), none, []⟩]) (.cond (.t 11) .skip (.exit 0))) (.seq (.block 1 (.region [⟨(some 14), (.mov (.t 3)), none, []⟩, ⟨(some 15), (.mov (.t 4)), none, []⟩, ⟨(some 16), (.mov (.t
  0)), none, []⟩, ⟨(some 17), (.mov (.t 4)), none, []⟩, ⟨(some 18), (.idx 1 (.t 16) (.t 17)), none, []⟩, ⟨(some 19), (.load none none (.t 18)), none, []⟩, ⟨(some 20), (.idx 1 (.t 14) (.t 15)), none, []⟩, ⟨none, (.store none 1 (.t 20) (.t
  19)), none, []⟩])) (.region [⟨(some 12), (.mov (.t 4)), none, []⟩, ⟨(some 13), (.bin .add (.t 12) (.c (.int .i64 1))), none, []⟩, ⟨(some 4), (.mov (.t 13)), none, []⟩])))))) (.seq (.region [⟨(some 21), (.mov (.t 3)), none, []⟩, ⟨(some 2),
  (.mov (.t 21)), none, []⟩]) .ret))))⟩
theorem irOk17 : compFun Tryd.prog.underlying Tryd.prog.info? sq Tryd.f17 = some ir17 := by kernel_rfl
def ir18 : BFun := ⟨[(.cell 2 (some 4)), (.tmp 3)], (.seq (.region [⟨(some 2), (.new 29 [(.int .i64 0), (.int .i64 0), .nils, .nils]), none, []⟩, ⟨(some 3), (.mov (.c (.int .i64 0))), none, []⟩]) (.seq (.region [⟨(some 4), (.mov (.c .nils)),
  none, []⟩]) (.seq (.seq (.region [⟨(some 7), (.mov (.t 0)), none, []⟩, ⟨(some 8), (.len 1 (.t 7)), none, []⟩, ⟨(some 9), (.mov (.c (.int .i64 0))), none, []⟩]) (.block 0 (.loop (.seq (.region [⟨(some 10), (.bin .lss (.t 9) (.t 8)), none,
  []⟩]) (.seq (.cond (.t 10) .skip (.exit 0)) (.seq (.block 1 (.seq (.region [⟨(some 11), (.idx 1 (.t 7) (.t 9)), none, []⟩, ⟨(some 12), (.load none none (.t 11)), none, []⟩, ⟨(some 6), (.mov (.t 12)), none, []⟩]) (.seq (.seq (.region
  [⟨(some 13), (.mov (.t 6)), none, []⟩, ⟨(some 14), (.call (.c (.fn 49 [])) [(.t 13)]), none, []⟩, ⟨(some 15), (.not (.t 14)), none, []⟩]) (.cond (.t 15) (.seq (.region [⟨(some 16), (.build [(.int .i64 0), (.int .i64 0), .nils, .nils] []),
  none, []⟩, ⟨none, (.store none 4 (.t 2) (.t 16)), none, []⟩, ⟨(some 3), (.mov (.c (.int .i64 2))), none, []⟩]) .ret) .skip)) (.region [⟨(some 17), (.mov (.t 4)), none, []⟩, ⟨(some 18), (.mov (.t 6)), none, []⟩, ⟨(some 19), (.call (.c (.fn
  42 [])) [(.t 18)]), none, []⟩, ⟨(some 20), (.mk 9 1 [(.str ⟨#[]⟩)] [(0, (1, (.t 19)))]), none, []⟩, ⟨(some 21), (.mk 58 1 [.nils] [(0, (1, (.t 20)))]), none, []⟩, ⟨(some 22), (.app 58 1 24 (.t 17) (.t 21)), none, []⟩, ⟨(some 4), (.mov (.t
  22)), none, []⟩])))) (.region [⟨(some 23), (.bin .add (.t 9) (.c (.int .i64 1))), none, []⟩, ⟨(some 9), (.mov (.t 23)), none, []⟩]))))))) (.seq (.region [⟨(some 24), (.mov (.t 4)), none, []⟩, ⟨(some 25), (.call (.c (.fn 50 [])) [(.c (.int
  .i64 1)), (.t 24)]), none, []⟩, ⟨(some 26), (.ext 0 (.t 25)), none, []⟩, ⟨(some 27), (.ext 1 (.t 25)), none, []⟩, ⟨none, (.store none 4 (.t 2) (.t 26)), none, []⟩, ⟨(some 3), (.mov (.t 27)), none, []⟩]) .ret))))⟩
theorem irOk18 : compFun Tryd.prog.underlying Tryd.prog.info? sq Tryd.f18 = some ir18 := by kernel_rfl
def ir19 : BFun := ⟨[(.tmp 4)], (.seq (.region [⟨(some 4), (.mov (.c (.bool false))), none, []⟩]) (.seq (.seq (.region [⟨(some 6), (.mov (.t 0)), none, []⟩, ⟨(some 7), (.len 1 (.t 6)), none, []⟩, ⟨(some 8), (.mov (.t 1)), none, []⟩, ⟨(some
  9), (.len 1 (.t 8)), none, []⟩, ⟨(some 10), (.bin .neq (.t 7) (.t 9)), none, []⟩]) (.cond (.t 10) (.seq (.region [⟨(some 4), (.mov (.c (.bool false))), none, []⟩]) .ret) .skip)) (.seq (.seq (.region [⟨(some 5), (.mov (.c (.int .i64 0))),
  none, []⟩]) (.block 0 (.loop (.seq (.seq (.region [⟨(some 11), (.mov (.t 5)), none, []⟩, ⟨(some 12), (.mov (.t 0)), none, []⟩, ⟨(some 13), (.len 1 (.t 12)), none, []⟩, ⟨(some 14), (.bin .lss (.t 11) (.t 13)), none, []⟩]) (.cond (.t 14)
  .skip (.exit 0))) (.seq (.block 1 (.seq (.region [⟨(some 17), (.mov (.t 0)), none, []⟩, ⟨(some 18), (.mov (.t 5)), none, []⟩, ⟨(some 19), (.idx 1 (.t 17) (.t 18)), none, []⟩, ⟨(some 20), (.load none none (.t 19)), none, []⟩, ⟨(some 21),
  (.mov (.t 1)), none, []⟩, ⟨(some 22), (.mov (.t 5)), none, []⟩, ⟨(some 23), (.idx 1 (.t 21) (.t 22)), none, []⟩, ⟨(some 24), (.load none none (.t 23)), none, []⟩, ⟨(some 25), (.bin .neq (.t 20) (.t 24)), none, []⟩]) (.cond (.t 25) (.seq
  (.region [⟨(some 4), (.mov (.c (.bool false))), none, []⟩]) .ret) .skip))) (.region [⟨(some 15), (.mov (.t 5)), none, []⟩, ⟨(some 16), (.bin .add (.t 15) (.c (.int .i64 1))), none, []⟩, ⟨(some 5), (.mov (.t 16)), none, []⟩])))))) (.seq
  (.region [⟨(some 4), (.mov (.c (.bool true))), none, []⟩]) .ret))))⟩
theorem irOk19 : compFun Tryd.prog.underlying Tryd.prog.info? sq Tryd.f19 = some ir19 := by kernel_rfl
def ir20 : BFun := ⟨[(.tmp 4)], (.seq (.region [⟨(some 4), (.mov (.c (.int .i64 0))), none, []⟩]) (.seq (.seq (.region [⟨(some 5), (.mov (.c (.int .i64 0))), none, []⟩]) (.block 0 (.loop (.seq (.seq (.region [⟨(some 6), (.mov (.t 5)), none,
  []⟩, ⟨(some 7), (.mov (.t 0)), none, []⟩, ⟨(some 8), (.len 1 (.t 7)), none, []⟩, ⟨(some 9), (.bin .lss (.t 6) (.t 8)), none, []⟩]) (.cond (.t 9) .skip (.exit 0))) (.seq (.block 1 (.seq (.region [⟨(some 12), (.mov (.t 0)), none, []⟩, ⟨(some
  13), (.mov (.t 5)), none, []⟩, ⟨(some 14), (.mov (.t 1)), none, []⟩, ⟨(some 15), (.idx 1 (.t 12) (.t 13)), none, []⟩, ⟨none, (.store none 1 (.t 15) (.t 14)), none, []⟩]) (.region [⟨(some 16), (.mov (.t 1)), none, []⟩, ⟨(some 17), (.bin
  .add (.t 16) (.c (.int .i64 1))), none, []⟩, ⟨(some 1), (.mov (.t 17)), none, []⟩]))) (.region [⟨(some 10), (.mov (.t 5)), none, []⟩, ⟨(some 11), (.bin .add (.t 10) (.c (.int .i64 1))), none, []⟩, ⟨(some 5), (.mov (.t 11)), none,
  []⟩])))))) (.seq (.region [⟨(some 18), (.mov (.t 1)), none, []⟩, ⟨(some 4), (.mov (.t 18)), none, []⟩]) .ret)))⟩
theorem irOk20 : compFun Tryd.prog.underlying Tryd.prog.info? sq Tryd.f20 = some ir20 := by kernel_rfl
def ir21 : BFun := ⟨[(.tmp 4)], (.seq (.region [⟨(some 2), (.box 29 (.t 0)), none, []⟩, ⟨(some 4), (.mov (.c (.int .i64 0))), none, []⟩]) (.seq (.region [⟨(some 5), (.lea 2 (.t 2)), none, []⟩, ⟨(some 6), (.load none none (.t 5)), none, []⟩,
  ⟨(some 7), (.mov (.t 1)), none, []⟩, ⟨(some 8), (.call (.c (.fn 51 [])) [(.t 6), (.t 7)]), none, []⟩, ⟨(some 1), (.mov (.t 8)), none, []⟩]) (.seq (.region [⟨(some 9), (.lea 3 (.t 2)), none, []⟩, ⟨(some 10), (.load none none (.t 9)), none,
  []⟩, ⟨(some 11), (.mov (.t 1)), none, []⟩, ⟨(some 12), (.call (.c (.fn 52 [])) [(.t 10), (.t 11)]), none, []⟩, ⟨(some 1), (.mov (.t 12)), none, []⟩]) (.seq (.region [⟨(some 13), (.mov (.t 1)), none, []⟩, ⟨(some 4), (.mov (.t 13)), none,
  []⟩]) .ret))))⟩
theorem irOk21 : compFun Tryd.prog.underlying Tryd.prog.info? sq Tryd.f21 = some ir21 := by kernel_rfl
def ir22 : BFun := ⟨[(.tmp 4)], (.seq (.region [⟨(some 2), (.box 29 (.t 0)), none, []⟩, ⟨(some 4), (.mov (.c (.int .i64 0))), none, []⟩]) (.seq (.region [⟨(some 5), (.lea 2 (.t 2)), none, []⟩, ⟨(some 6), (.load none none (.t 5)), none, []⟩,
  ⟨(some 7), (.mov (.t 1)), none, []⟩, ⟨(some 8), (.call (.c (.fn 53 [])) [(.t 6), (.t 7)]), none, []⟩, ⟨(some 1), (.mov (.t 8)), none, []⟩]) (.seq (.seq (.region [⟨(some 9), (.mov (.t 1)), none, []⟩, ⟨(some 10), (.bin .lss (.t 9) (.c (.int
  .i64 0))), none, []⟩]) (.cond (.t 10) (.seq (.region [⟨(some 4), (.mov (.c (.int .i64 (-1)))), none, []⟩]) .ret) .skip)) (.seq (.region [⟨(some 11), (.lea 3 (.t 2)), none, []⟩, ⟨(some 12), (.load none none (.t 11)), none, []⟩, ⟨(some 13),
  (.mov (.t 1)), none, []⟩, ⟨(some 14), (.call (.c (.fn 54 [])) [(.t 12), (.t 13)]), none, []⟩, ⟨(some 1), (.mov (.t 14)), none, []⟩]) (.seq (.seq (.region [⟨(some 15), (.mov (.t 1)), none, []⟩, ⟨(some 16), (.bin .lss (.t 15) (.c (.int .i64
  0))), none, []⟩]) (.cond (.t 16) (.seq (.region [⟨(some 4), (.mov (.c (.int .i64 (-1)))), none, []⟩]) .ret) .skip)) (.seq (.region [⟨(some 17), (.mov (.t 1)), none, []⟩, ⟨(some 4), (.mov (.t 17)), none, []⟩]) .ret))))))⟩
theorem irOk22 : compFun Tryd.prog.underlying Tryd.prog.info? sq Tryd.f22 = some ir22 := by kernel_rfl
def ir31 : BFun := ⟨[(.tmp 4)], (.seq (.region [⟨(some 4), (.mov (.c (.bool false))), none, []⟩]) (.seq (.seq (.region [⟨(some 6), (.mov (.t 0)), none, []⟩, ⟨(some 7), (.len 1 (.t 6)), none, []⟩, ⟨(some 8), (.mov (.t 1)), none, []⟩, ⟨(some
  9), (.len 1 (.t 8)), none, []⟩, ⟨(some 10), (.bin .neq (.t 7) (.t 9)), none, []⟩]) (.cond (.t 10) (.seq (.region [⟨(some 4), (.mov (.c (.bool false))), none, []⟩]) .ret) .skip)) (.seq (.seq (.region [⟨(some 5), (.mov (.c (.int .i64 0))),
  none, []⟩]) (.block 0 (.loop (.seq (.seq (.region [⟨(some 11), (.mov (.t 5)), none, []⟩, ⟨(some 12), (.mov (.t 0)), none, []⟩, ⟨(some 13), (.len 1 (.t 12)), none, []⟩, ⟨(some 14), (.bin .lss (.t 11) (.t 13)), none, []⟩]) (.cond (.t 14)
  .skip (.exit 0))) (.seq (.block 1 (.seq (.region [⟨(some 17), (.mov (.t 0)), none, []⟩, ⟨(some 18), (.mov (.t 5)), none, []⟩, ⟨(some 19), (.idx 1 (.t 17) (.t 18)), none, []⟩, ⟨(some 20), (.load none none (.t 19)), none, []⟩, ⟨(some 21),
  (.mov (.t 1)), none, []⟩, ⟨(some 22), (.mov (.t 5)), none, []⟩, ⟨(some 23), (.idx 1 (.t 21) (.t 22)), none, []⟩, ⟨(some 24), (.load none none (.t 23)), none, []⟩, ⟨(some 25), (.beq true (.t 20) (.t 24)), none, []⟩]) (.cond (.t 25) (.seq
  (.region [⟨(some 4), (.mov (.c (.bool false))), none, []⟩]) .ret) .skip))) (.region [⟨(some 15), (.mov (.t 5)), none, []⟩, ⟨(some 16), (.bin .add (.t 15) (.c (.int .i64 1))), none, []⟩, ⟨(some 5), (.mov (.t 16)), none, []⟩])))))) (.seq
  (.region [⟨(some 4), (.mov (.c (.bool true))), none, []⟩]) .ret))))⟩
theorem irOk31 : compFun Tryd.prog.underlying Tryd.prog.info? sq Tryd.f31 = some ir31 := by kernel_rfl
def ir32 : BFun := ⟨[(.tmp 4)], (.seq (.region [⟨(some 4), (.mov (.c (.bool false))), none, []⟩]) (.seq (.seq (.region [⟨(some 6), (.mov (.t 0)), none, []⟩, ⟨(some 7), (.len 1 (.t 6)), none, []⟩, ⟨(some 8), (.mov (.t 1)), none, []⟩, ⟨(some
  9), (.len 1 (.t 8)), none, []⟩, ⟨(some 10), (.bin .neq (.t 7) (.t 9)), none, []⟩]) (.cond (.t 10) (.seq (.region [⟨(some 4), (.mov (.c (.bool false))), none, []⟩]) .ret) .skip)) (.seq (.seq (.region [⟨(some 5), (.mov (.c (.int .i64 0))),
  none, []⟩]) (.block 0 (.loop (.seq (.seq (.region [⟨(some 11), (.mov (.t 5)), none, []⟩, ⟨(some 12), (.mov (.t 0)), none, []⟩, ⟨(some 13), (.len 1 (.t 12)), none, []⟩, ⟨(some 14), (.bin .lss (.t 11) (.t 13)), none, []⟩]) (.cond (.t 14)
  .skip (.exit 0))) (.seq (.block 1 (.seq (.region [⟨(some 17), (.mov (.t 0)), none, []⟩, ⟨(some 18), (.mov (.t 5)), none, []⟩, ⟨(some 19), (.idx 1 (.t 17) (.t 18)), none, []⟩, ⟨(some 20), (.load none none (.t 19)), none, []⟩, ⟨(some 21),
  (.mov (.t 1)), none, []⟩, ⟨(some 22), (.mov (.t 5)), none, []⟩, ⟨(some 23), (.idx 1 (.t 21) (.t 22)), none, []⟩, ⟨(some 24), (.load none none (.t 23)), none, []⟩, ⟨(some 25), (.call (.c (.fn 19 [])) [(.t 20), (.t 24)]), none, []⟩, ⟨(some
  26), (.not (.t 25)), none, []⟩]) (.cond (.t 26) (.seq (.region [⟨(some 4), (.mov (.c (.bool false))), none, []⟩]) .ret) .skip))) (.region [⟨(some 15), (.mov (.t 5)), none, []⟩, ⟨(some 16), (.bin .add (.t 15) (.c (.int .i64 1))), none, []⟩,
  ⟨(some 5), (.mov (.t 16)), none, []⟩])))))) (.seq (.region [⟨(some 4), (.mov (.c (.bool true))), none, []⟩]) .ret))))⟩
theorem irOk32 : compFun Tryd.prog.underlying Tryd.prog.info? sq Tryd.f32 = some ir32 := by kernel_rfl
def ir34 : BFun := ⟨[(.tmp 6)], (.seq (.region [⟨(some 6), (.mov (.c (.bool false))), none, []⟩]) (.seq (.region [⟨(some 7), (.mov (.t 0)), none, []⟩, ⟨(some 8), (.mov (.t 1)), none, []⟩, ⟨(some 9), (.bin .geq (.t 7) (.t 8)), none, []⟩,
  ⟨(some 10), (.mov (.t 9)), none, []⟩, ⟨(some 11), (.mov (.t 0)), (some (10, true)), []⟩, ⟨(some 12), (.mov (.t 2)), (some (10, true)), []⟩, ⟨(some 13), (.bin .leq (.t 11) (.t 12)), (some (10, true)), []⟩, ⟨(some 14), (.pick (.t 10) (.t 13)
  (.c (.bool false))), none, []⟩, ⟨(some 6), (.mov (.t 14)), none, []⟩]) .ret))⟩
theorem irOk34 : compFun Tryd.prog.underlying Tryd.prog.info? sq Tryd.f34 = some ir34 := by kernel_rfl
def ir36 : BFun := ⟨[(.tmp 2)], (.seq (.region [⟨(some 2), (.mov (.c (.str ⟨#[]⟩))), none, []⟩]) (.seq (.region [⟨(some 4), (.mk 5 0 [] []), none, []⟩, ⟨(some 3), (.mov (.t 4)), none, []⟩]) (.seq (.block 0 (.loop (.seq (.seq (.region [⟨(some
  5), (.mov (.t 0)), none, []⟩, ⟨(some 6), (.bin .gtr (.t 5) (.c (.int .i64 0))), none, []⟩]) (.cond (.t 6) .skip (.exit 0))) (.seq (.block 1 (.region [⟨(some 9), (.mov (.t 3)), none, []⟩, ⟨(some 10), (.mov (.t 0)), none, []⟩, ⟨(some 11),
  (.bin .rem (.t 10) (.c (.int .i64 2))), none, []⟩, ⟨(some 12), (.bin .add (.c (.int .i64 97)) (.t 11)), none, []⟩, ⟨(some 13), (.conv .u8 (.t 12)), none, []⟩, ⟨(some 14), (.mk 5 1 [(.int .u8 0)] [(0, (1, (.t 13)))]), none, []⟩, ⟨(some 15),
  (.app 5 1 1 (.t 9) (.t 14)), none, []⟩, ⟨(some 3), (.mov (.t 15)), none, []⟩])) (.region [⟨(some 7), (.mov (.t 0)), none, []⟩, ⟨(some 8), (.bin .quo (.t 7) (.c (.int .i64 2))), none, []⟩, ⟨(some 0), (.mov (.t 8)), none, []⟩]))))) (.seq
  (.region [⟨(some 16), (.mov (.t 3)), none, []⟩, ⟨(some 17), (.b2s 5 (.t 16)), none, []⟩, ⟨(some 2), (.mov (.t 17)), none, []⟩]) .ret))))⟩
theorem irOk36 : compFun Tryd.prog.underlying Tryd.prog.info? sq Tryd.f36 = some ir36 := by kernel_rfl
def ir38 : BFun := ⟨[(.tmp 6)], (.seq (.region [⟨(some 6), (.mov (.c (.bool false))), none, []⟩]) (.seq (.region [⟨(some 7), (.mov (.t 1)), none, []⟩, ⟨(some 8), (.mov (.t 0)), none, []⟩, ⟨(some 9), (.bin .leq (.t 7) (.t 8)), none, []⟩,
  ⟨(some 10), (.mov (.t 9)), none, []⟩, ⟨(some 11), (.mov (.t 0)), (some (10, true)), []⟩, ⟨(some 12), (.mov (.t 2)), (some (10, true)), []⟩, ⟨(some 13), (.bin .leq (.t 11) (.t 12)), (some (10, true)), []⟩, ⟨(some 14), (.pick (.t 10) (.t 13)
  (.c (.bool false))), none, []⟩, ⟨(some 6), (.mov (.t 14)), none, []⟩]) .ret))⟩
theorem irOk38 : compFun Tryd.prog.underlying Tryd.prog.info? sq Tryd.f38 = some ir38 := by kernel_rfl
def ir41 : BFun := ⟨[(.tmp 2)], (.seq (.region [⟨(some 2), (.mov (.c .nils)), none, []⟩]) (.seq (.region [⟨(some 3), (.mov (.c (.int .i64 0))), none, []⟩]) (.seq (.seq (.region [⟨(some 12), (.mov (.t 0)), none, []⟩, ⟨(some 13), (.len 1 (.t
  12)), none, []⟩, ⟨(some 14), (.mov (.c (.int .i64 0))), none, []⟩]) (.block 0 (.loop (.seq (.region [⟨(some 15), (.bin .lss (.t 14) (.t 13)), none, []⟩]) (.seq (.cond (.t 15) .skip (.exit 0)) (.seq (.block 1 (.seq (.region [⟨(some 16),
  (.idx 1 (.t 12) (.t 14)), none, []⟩, ⟨(some 17), (.load none none (.t 16)), none, []⟩, ⟨(some 5), (.mov (.t 17)), none, []⟩]) (.region [⟨(some 18), (.mov (.t 3)), none, []⟩, ⟨(some 19), (.mov (.t 5)), none, []⟩, ⟨(some 20), (.len 0 (.t
  19)), none, []⟩, ⟨(some 21), (.imax (.t 18) (.t 20)), none, []⟩, ⟨(some 3), (.mov (.t 21)), none, []⟩]))) (.region [⟨(some 22), (.bin .add (.t 14) (.c (.int .i64 1))), none, []⟩, ⟨(some 14), (.mov (.t 22)), none, []⟩]))))))) (.seq (.region
  [⟨(some 6), (.mov (.c .nils)), none, []⟩]) (.seq (.seq (.region [⟨(some 7), (.mov (.c (.int .i64 0))), none, []⟩]) (.block 2 (.loop (.seq (.seq (.region [⟨(some 23), (.mov (.t 7)), none, []⟩, ⟨(some 24), (.mov (.t 3)), none, []⟩, ⟨(some
  25), (.bin .lss (.t 23) (.t 24)), none, []⟩]) (.cond (.t 25) .skip (.exit 2))) (.seq (.block 3 (.seq (.region [⟨(some 8), (.mov (.c .nils)), none, []⟩]) (.seq (.seq (.region [⟨(some 28), (.mov (.t 0)), none, []⟩, ⟨(some 29), (.len 1 (.t
  28)), none, []⟩, ⟨(some 30), (.mov (.c (.int .i64 0))), none, []⟩]) (.block 4 (.loop (.seq (.region [⟨(some 31), (.bin .lss (.t 30) (.t 29)), none, []⟩]) (.seq (.cond (.t 31) .skip (.exit 4)) (.seq (.block 5 (.seq (.region [⟨(some 32),
  (.idx 1 (.t 28) (.t 30)), none, []⟩, ⟨(some 33), (.load none none (.t 32)), none, []⟩, ⟨(some 10), (.mov (.t 33)), none, []⟩]) (.seq (.region [⟨(some 11), (.mov (.c (.int .i64 2))), none, []⟩]) (.seq (.seq (.region [⟨(some 34), (.mov (.t
  7)), none, []⟩, ⟨(some 35), (.mov (.t 10)), none, []⟩, ⟨(some 36), (.len 0 (.t 35)), none, []⟩, ⟨(some 37), (.bin .lss (.t 34) (.t 36)), none, []⟩]) (.cond (.t 37) (.region [⟨(some 38), (.mov (.t 10)), none, []⟩, ⟨(some 39), (.mov (.t 7)),
  none, []⟩, ⟨(some 40), (.idxs (.t 38) (.t 39)), none, []⟩, ⟨(some 41), (.bin .sub (.t 40) (.c (.int .u8 97))), none, []⟩, ⟨(some 42), (.conv .i64 (.t 41)), none, []⟩, ⟨(some 11), (.mov (.t 42)), none, []⟩]) .skip)) (.region [⟨(some 43),
  (.mov (.t 8)), none, []⟩, ⟨(some 44), (.mov (.t 11)), none, []⟩, ⟨(some 45), (.mk 3 1 [(.int .i64 0)] [(0, (1, (.t 44)))]), none, []⟩, ⟨(some 46), (.app 3 1 8 (.t 43) (.t 45)), none, []⟩, ⟨(some 8), (.mov (.t 46)), none, []⟩]))))) (.region
  [⟨(some 47), (.bin .add (.t 30) (.c (.int .i64 1))), none, []⟩, ⟨(some 30), (.mov (.t 47)), none, []⟩]))))))) (.region [⟨(some 48), (.mov (.t 6)), none, []⟩, ⟨(some 49), (.mov (.t 8)), none, []⟩, ⟨(some 50), (.call (.c (.fn 65 [])) [(.t
  49)]), none, []⟩, ⟨(some 51), (.mk 3 1 [(.int .i64 0)] [(0, (1, (.t 50)))]), none, []⟩, ⟨(some 52), (.app 3 1 8 (.t 48) (.t 51)), none, []⟩, ⟨(some 6), (.mov (.t 52)), none, []⟩])))) (.region [⟨(some 26), (.mov (.t 7)), none, []⟩, ⟨(some
  27), (.bin .add (.t 26) (.c (.int .i64 1))), none, []⟩, ⟨(some 7), (.mov (.t 27)), none, []⟩])))))) (.seq (.region [⟨(some 53), (.mov (.t 6)), none, []⟩, ⟨(some 2), (.mov (.t 53)), none, []⟩]) .ret))))))⟩
theorem irOk41 : compFun Tryd.prog.underlying Tryd.prog.info? sq Tryd.f41 = some ir41 := by kernel_rfl
def ir42 : BFun := ⟨[(.tmp 2)], (.seq (.region [⟨(some 2), (.mov (.c (.str ⟨#[]⟩))), none, []⟩]) (.seq (.region [⟨(some 3), (.mov (.c (.str ⟨#[]⟩))), none, []⟩]) (.seq (.block 0 (.loop (.seq (.seq (.region [⟨(some 4), (.mov (.t 0)), none,
  []⟩, ⟨(some 5), (.bin .gtr (.t 4) (.c (.int .i64 0))), none, []⟩]) (.cond (.t 5) .skip (.exit 0))) (.seq (.block 1 (.region [⟨(some 8), (.mov (.t 3)), none, []⟩, ⟨(some 9), (.mov (.t 0)), none, []⟩, ⟨(some 10), (.bin .rem (.t 9) (.c (.int
  .i64 2))), none, []⟩, ⟨(some 11), (.mov (.t 0)), none, []⟩, ⟨(some 12), (.bin .rem (.t 11) (.c (.int .i64 2))), none, []⟩, ⟨(some 13), (.bin .add (.t 12) (.c (.int .i64 1))), none, []⟩, ⟨(some 14), (.sslice (.c (.str ⟨#[97, 98]⟩)) (some
  (.t 10)) (some (.t 13))), none, []⟩, ⟨(some 15), (.bin .add (.t 8) (.t 14)), none, []⟩, ⟨(some 3), (.mov (.t 15)), none, []⟩])) (.region [⟨(some 6), (.mov (.t 0)), none, []⟩, ⟨(some 7), (.bin .quo (.t 6) (.c (.int .i64 2))), none, []⟩,
  ⟨(some 0), (.mov (.t 7)), none, []⟩]))))) (.seq (.region [⟨(some 16), (.mov (.t 3)), none, []⟩, ⟨(some 2), (.mov (.t 16)), none, []⟩]) .ret))))⟩
theorem irOk42 : compFun Tryd.prog.underlying Tryd.prog.info? sq Tryd.f42 = some ir42 := by kernel_rfl
def ir48 : BFun := ⟨[(.cell 4 (some 4)), (.tmp 5)], (.seq (.region [⟨(some 4), (.new 29 [(.int .i64 0), (.int .i64 0), .nils, .nils]), none, []⟩, ⟨(some 5), (.mov (.c (.int .i64 0))), none, []⟩]) (.seq (.seq (.region [⟨(some 6), (.mov (.c
  (.int .i64 0))), none, []⟩]) (.block 0 (.loop (.seq (.seq (.region [⟨(some 16), (.mov (.t 6)), none, []⟩, ⟨(some 17), (.mov (.t 1)), none, []⟩, ⟨(some 18), (.len 1 (.t 17)), none, []⟩, ⟨(some 19), (.bin .lss (.t 16) (.t 18)), none, []⟩])
  (.cond (.t 19) .skip (.exit 0))) (.seq (.block 1 (.seq (.region [⟨(some 22), (.mov (.t 1)), none, []⟩, ⟨(some 23), (.mov (.t 6)), none, []⟩, ⟨(some 24), (.idx 1 (.t 22) (.t 23)), none, []⟩, ⟨(some 25), (.load none none (.t 24)), none, []⟩,
  ⟨(some 26), (.call (.c (.fn 73 [])) [(.t 25)]), none, []⟩, ⟨(some 27), (.not (.t 26)), none, []⟩]) (.cond (.t 27) (.seq (.region [⟨(some 28), (.build [(.int .i64 0), (.int .i64 0), .nils, .nils] []), none, []⟩, ⟨none, (.store none 4 (.t 4)
  (.t 28)), none, []⟩, ⟨(some 5), (.mov (.c (.int .i64 1))), none, []⟩]) .ret) .skip))) (.region [⟨(some 20), (.mov (.t 6)), none, []⟩, ⟨(some 21), (.bin .add (.t 20) (.c (.int .i64 1))), none, []⟩, ⟨(some 6), (.mov (.t 21)), none,
  []⟩])))))) (.seq (.seq (.region [⟨(some 29), (.mov (.t 0)), none, []⟩, ⟨(some 30), (.call (.c (.fn 34 [])) [(.t 29), (.c (.int .i64 1)), (.c (.int .i64 3))]), none, []⟩, ⟨(some 31), (.not (.t 30)), none, []⟩, ⟨(some 32), (.mov (.t 31)),
  none, []⟩, ⟨(some 33), (.mov (.t 1)), (some (32, false)), []⟩, ⟨(some 34), (.len 1 (.t 33)), (some (32, false)), []⟩, ⟨(some 35), (.bin .gtr (.t 34) (.c (.int .i64 300))), (some (32, false)), []⟩, ⟨(some 36), (.pick (.t 32) (.c (.bool
  true)) (.t 35)), none, []⟩]) (.cond (.t 36) (.seq (.region [⟨(some 37), (.build [(.int .i64 0), (.int .i64 0), .nils, .nils] []), none, []⟩, ⟨none, (.store none 4 (.t 4) (.t 37)), none, []⟩, ⟨(some 5), (.mov (.c (.int .i64 2))), none,
  []⟩]) .ret) .skip)) (.seq (.region [⟨(some 7), (.mov (.c (.int .i64 0))), none, []⟩]) (.seq (.seq (.region [⟨(some 8), (.mov (.c (.int .i64 0))), none, []⟩]) (.block 2 (.loop (.seq (.seq (.region [⟨(some 38), (.mov (.t 8)), none, []⟩,
  ⟨(some 39), (.mov (.t 1)), none, []⟩, ⟨(some 40), (.len 1 (.t 39)), none, []⟩, ⟨(some 41), (.bin .lss (.t 38) (.t 40)), none, []⟩]) (.cond (.t 41) .skip (.exit 2))) (.seq (.block 3 (.seq (.seq (.region [⟨(some 44), (.mov (.t 1)), none,
  []⟩, ⟨(some 45), (.mov (.t 8)), none, []⟩, ⟨(some 46), (.idx 1 (.t 44) (.t 45)), none, []⟩, ⟨(some 47), (.load none none (.t 46)), none, []⟩, ⟨(some 48), (.len 1 (.t 47)), none, []⟩, ⟨(some 49), (.mov (.t 0)), none, []⟩, ⟨(some 50), (.bin
  .neq (.t 48) (.t 49)), none, []⟩]) (.cond (.t 50) (.seq (.region [⟨(some 51), (.build [(.int .i64 0), (.int .i64 0), .nils, .nils] []), none, []⟩, ⟨none, (.store none 4 (.t 4) (.t 51)), none, []⟩, ⟨(some 5), (.mov (.c (.int .i64 2))),
  none, []⟩]) .ret) .skip)) (.region [⟨(some 52), (.mov (.t 7)), none, []⟩, ⟨(some 53), (.mov (.t 1)), none, []⟩, ⟨(some 54), (.mov (.t 8)), none, []⟩, ⟨(some 55), (.idx 1 (.t 53) (.t 54)), none, []⟩, ⟨(some 56), (.load none none (.t 55)),
  none, []⟩, ⟨(some 57), (.call (.c (.fn 63 [])) [(.t 56)]), none, []⟩, ⟨(some 58), (.len 1 (.t 57)), none, []⟩, ⟨(some 59), (.bin .add (.t 52) (.t 58)), none, []⟩, ⟨(some 7), (.mov (.t 59)), none, []⟩]))) (.region [⟨(some 42), (.mov (.t
  8)), none, []⟩, ⟨(some 43), (.bin .add (.t 42) (.c (.int .i64 1))), none, []⟩, ⟨(some 8), (.mov (.t 43)), none, []⟩])))))) (.seq (.seq (.region [⟨(some 60), (.mov (.t 7)), none, []⟩, ⟨(some 61), (.bin .gtr (.t 60) (.c (.int .i64 1000))),
  none, []⟩]) (.cond (.t 61) (.seq (.region [⟨(some 62), (.build [(.int .i64 0), (.int .i64 0), .nils, .nils] []), none, []⟩, ⟨none, (.store none 4 (.t 4) (.t 62)), none, []⟩, ⟨(some 5), (.mov (.c (.int .i64 3))), none, []⟩]) .ret) .skip))
  (.seq (.region [⟨(some 63), (.mov (.t 0)), none, []⟩, ⟨(some 64), (.build [(.int .i64 0), (.int .i64 0), .nils, .nils] [(0, (1, (.t 63)))]), none, []⟩, ⟨(some 9), (.new 29 [(.int .i64 0), (.int .i64 0), .nils, .nils]), none, []⟩, ⟨none,
  (.store none 4 (.t 9) (.t 64)), none, []⟩]) (.seq (.region [⟨(some 65), (.mk 2 0 [] []), none, []⟩, ⟨(some 10), (.mov (.t 65)), none, []⟩]) (.seq (.seq (.region [⟨(some 11), (.mov (.c (.int .i64 0))), none, []⟩]) (.block 4 (.loop (.seq
  (.seq (.region [⟨(some 66), (.mov (.t 11)), none, []⟩, ⟨(some 67), (.mov (.t 0)), none, []⟩, ⟨(some 68), (.call (.c (.fn 74 [])) [(.t 67)]), none, []⟩, ⟨(some 69), (.bin .lss (.t 66) (.t 68)), none, []⟩]) (.cond (.t 69) .skip (.exit 4)))
  (.seq (.block 5 (.region [⟨(some 72), (.mov (.t 10)), none, []⟩, ⟨(some 73), (.mk 2 1 [(.int .i64 0)] [(0, (1, (.c (.int .i64 0))))]), none, []⟩, ⟨(some 74), (.app 2 1 8 (.t 72) (.t 73)), none, []⟩, ⟨(some 10), (.mov (.t 74)), none, []⟩]))
  (.region [⟨(some 70), (.mov (.t 11)), none, []⟩, ⟨(some 71), (.bin .add (.t 70) (.c (.int .i64 1))), none, []⟩, ⟨(some 11), (.mov (.t 71)), none, []⟩])))))) (.seq (.region [⟨(some 75), (.mk 4 2 [(.bool false), (.bool false)] [(0, (1, (.c
  (.bool false)))), (1, (1, (.c (.bool false))))]), none, []⟩, ⟨(some 76), (.lea 2 (.t 9)), none, []⟩, ⟨none, (.store none 1 (.t 76) (.t 75)), none, []⟩]) (.seq (.region [⟨(some 77), (.mov (.t 10)), none, []⟩, ⟨(some 78), (.mov (.t 10)),
  none, []⟩, ⟨(some 79), (.call (.c (.fn 75 [])) [(.t 78)]), none, []⟩, ⟨(some 80), (.mk 37 2 [.nils, .nils] [(0, (1, (.t 77))), (1, (1, (.t 79)))]), none, []⟩, ⟨(some 81), (.lea 3 (.t 9)), none, []⟩, ⟨none, (.store none 1 (.t 81) (.t 80)),
  none, []⟩]) (.seq (.region [⟨(some 82), (.lea 1 (.t 9)), none, []⟩, ⟨none, (.store none 1 (.t 82) (.c (.int .i64 1))), none, []⟩]) (.seq (.seq (.region [⟨(some 12), (.mov (.c (.int .i64 0))), none, []⟩]) (.block 6 (.loop (.seq (.seq
  (.region [⟨(some 83), (.mov (.t 12)), none, []⟩, ⟨(some 84), (.mov (.t 1)), none, []⟩, ⟨(some 85), (.len 1 (.t 84)), none, []⟩, ⟨(some 86), (.bin .lss (.t 83) (.t 85)), none, []⟩]) (.cond (.t 86) .skip (.exit 6))) (.seq (.block 7 (.seq
  (.region [⟨(some 89), (.mov (.t 1)), none, []⟩, ⟨(some 90), (.mov (.t 12)), none, []⟩, ⟨(some 91), (.idx 1 (.t 89) (.t 90)), none, []⟩, ⟨(some 92), (.load none none (.t 91)), none, []⟩, ⟨(some 93), (.call (.c (.fn 63 [])) [(.t 92)]), none,
  []⟩, ⟨(some 13), (.mov (.t 93)), none, []⟩]) (.seq (.region [⟨(some 94), (.lea 1 (.t 9)), none, []⟩, ⟨(some 95), (.load none none (.t 94)), none, []⟩, ⟨(some 14), (.mov (.t 95)), none, []⟩]) (.seq (.seq (.region [⟨(some 15), (.mov (.c
  (.int .i64 0))), none, []⟩]) (.block 8 (.loop (.seq (.seq (.region [⟨(some 96), (.mov (.t 15)), none, []⟩, ⟨(some 97), (.mov (.t 13)), none, []⟩, ⟨(some 98), (.len 1 (.t 97)), none, []⟩, ⟨(some 99), (.bin .lss (.t 96) (.t 98)), none, []⟩])
  (.cond (.t 99) .skip (.exit 8))) (.seq (.block 9 (.seq (.seq (.region [⟨(some 102), (.lea 3 (.t 9)), none, []⟩, ⟨(some 103), (.load none none (.t 102)), none, []⟩, ⟨(some 104), (.mov (.t 14)), none, []⟩, ⟨(some 105), (.idx 1 (.t 103) (.t
  104)), none, []⟩, ⟨(some 106), (.load none none (.t 105)), none, []⟩, ⟨(some 107), (.mov (.t 13)), none, []⟩, ⟨(some 108), (.mov (.t 15)), none, []⟩, ⟨(some 109), (.idx 1 (.t 107) (.t 108)), none, []⟩, ⟨(some 110), (.load none none (.t
  109)), none, []⟩, ⟨(some 111), (.idx 1 (.t 106) (.t 110)), none, []⟩, ⟨(some 112), (.load none none (.t 111)), none, []⟩, ⟨(some 113), (.bin .eql (.t 112) (.c (.int .i64 0))), none, []⟩]) (.cond (.t 113) (.seq (.region [⟨(some 114), (.lea
  3 (.t 9)), none, []⟩, ⟨(some 115), (.load none none (.t 114)), none, []⟩, ⟨(some 116), (.mov (.t 14)), none, []⟩, ⟨(some 117), (.idx 1 (.t 115) (.t 116)), none, []⟩, ⟨(some 118), (.load none none (.t 117)), none, []⟩, ⟨(some 119), (.mov
  (.t 13)), none, []⟩, ⟨(some 120), (.mov (.t 15)), none, []⟩, ⟨(some 121), (.idx 1 (.t 119) (.t 120)), none, []⟩, ⟨(some 122), (.load none none (.t 121)), none, []⟩, ⟨(some 123), (.lea 2 (.t 9)), none, []⟩, ⟨(some 124), (.load none none (.t
  123)), none, []⟩, ⟨(some 125), (.len 1 (.t 124)), none, []⟩, ⟨(some 126), (.idx 1 (.t 118) (.t 122)), none, []⟩, ⟨none, (.store none 1 (.t 126) (.t 125)), none, []⟩]) (.seq (.region [⟨(some 127), (.lea 2 (.t 9)), none, []⟩, ⟨(some 128),
  (.load none none (.t 127)), none, []⟩, ⟨(some 129), (.mk 4 1 [(.bool false)] [(0, (1, (.c (.bool false))))]), none, []⟩, ⟨(some 130), (.app 4 1 1 (.t 128) (.t 129)), none, []⟩, ⟨(some 131), (.lea 2 (.t 9)), none, []⟩, ⟨none, (.store none 1
  (.t 131) (.t 130)), none, []⟩]) (.region [⟨(some 132), (.lea 3 (.t 9)), none, []⟩, ⟨(some 133), (.load (some 29) none (.t 132)), none, []⟩, ⟨(some 134), (.mov (.t 10)), none, []⟩, ⟨(some 135), (.call (.c (.fn 75 [])) [(.t 134)]), none,
  [29]⟩, ⟨(some 136), (.mk 37 1 [.nils] [(0, (1, (.t 135)))]), none, []⟩, ⟨(some 137), (.app 37 1 24 (.t 133) (.t 136)), none, []⟩, ⟨(some 138), (.lea 3 (.t 9)), none, []⟩, ⟨none, (.store none 1 (.t 138) (.t 137)), none, []⟩]))) .skip))
  (.region [⟨(some 139), (.lea 3 (.t 9)), none, []⟩, ⟨(some 140), (.load none none (.t 139)), none, []⟩, ⟨(some 141), (.mov (.t 14)), none, []⟩, ⟨(some 142), (.idx 1 (.t 140) (.t 141)), none, []⟩, ⟨(some 143), (.load none none (.t 142)),
  none, []⟩, ⟨(some 144), (.mov (.t 13)), none, []⟩, ⟨(some 145), (.mov (.t 15)), none, []⟩, ⟨(some 146), (.idx 1 (.t 144) (.t 145)), none, []⟩, ⟨(some 147), (.load none none (.t 146)), none, []⟩, ⟨(some 148), (.idx 1 (.t 143) (.t 147)),
  none, []⟩, ⟨(some 149), (.load none none (.t 148)), none, []⟩, ⟨(some 14), (.mov (.t 149)), none, []⟩]))) (.region [⟨(some 100), (.mov (.t 15)), none, []⟩, ⟨(some 101), (.bin .add (.t 100) (.c (.int .i64 1))), none, []⟩, ⟨(some 15), (.mov
  (.t 101)), none, []⟩])))))) (.region [⟨(some 150), (.lea 2 (.t 9)), none, []⟩, ⟨(some 151), (.load none none (.t 150)), none, []⟩, ⟨(some 152), (.mov (.t 14)), none, []⟩, ⟨(some 153), (.idx 1 (.t 151) (.t 152)), none, []⟩, ⟨none, (.store
  none 1 (.t 153) (.c (.bool true))), none, []⟩]))))) (.region [⟨(some 87), (.mov (.t 12)), none, []⟩, ⟨(some 88), (.bin .add (.t 87) (.c (.int .i64 1))), none, []⟩, ⟨(some 12), (.mov (.t 88)), none, []⟩])))))) (.seq (.region [⟨(some 154),
  (.call (.c (.fn 66 [])) [(.t 9)]), none, []⟩, ⟨(some 155), (.call (.c (.fn 76 [])) [(.t 154)]), none, []⟩, ⟨(some 156), (.ext 0 (.t 155)), none, []⟩, ⟨(some 157), (.ext 1 (.t 155)), none, []⟩, ⟨none, (.store none 4 (.t 4) (.t 156)), none,
  []⟩, ⟨(some 5), (.mov (.t 157)), none, []⟩]) .ret))))))))))))))⟩
theorem irOk48 : compFun Tryd.prog.underlying Tryd.prog.info? sq Tryd.f48 = some ir48 := by kernel_rfl
def ir49 : BFun := ⟨[(.tmp 2)], (.seq (.region [⟨(some 2), (.mov (.c (.bool false))), none, []⟩]) (.seq (.region [⟨(some 3), (.mov (.t 0)), none, []⟩, ⟨(some 4), (.call (.c (.fn 38 [])) [(.t 3), (.c (.int .i64 0)), (.c (.int .i64
  1000000000))]), none, []⟩, ⟨(some 2), (.mov (.t 4)), none, []⟩]) .ret))⟩
theorem irOk49 : compFun Tryd.prog.underlying Tryd.prog.info? sq Tryd.f49 = some ir49 := by kernel_rfl
def ir50 : BFun := ⟨[(.cell 4 (some 4)), (.tmp 5)], (.seq (.region [⟨(some 4), (.new 29 [(.int .i64 0), (.int .i64 0), .nils, .nils]), none, []⟩, ⟨(some 5), (.mov (.c (.int .i64 0))), none, []⟩]) (.seq (.seq (.region [⟨(some 11), (.mov (.t
  1)), none, []⟩, ⟨(some 12), (.len 1 (.t 11)), none, []⟩, ⟨(some 13), (.mov (.c (.int .i64 0))), none, []⟩]) (.block 0 (.loop (.seq (.region [⟨(some 14), (.bin .lss (.t 13) (.t 12)), none, []⟩]) (.seq (.cond (.t 14) .skip (.exit 0)) (.seq
  (.block 1 (.seq (.region [⟨(some 15), (.idx 1 (.t 11) (.t 13)), none, []⟩, ⟨(some 16), (.load none none (.t 15)), none, []⟩, ⟨(some 7), (.mov (.t 16)), none, []⟩]) (.seq (.region [⟨(some 17), (.mov (.t 7)), none, []⟩, ⟨(some 18), (.call
  (.c (.fn 77 [])) [(.t 17)]), none, []⟩, ⟨(some 19), (.not (.t 18)), none, []⟩]) (.cond (.t 19) (.seq (.region [⟨(some 20), (.build [(.int .i64 0), (.int .i64 0), .nils, .nils] []), none, []⟩, ⟨none, (.store none 4 (.t 4) (.t 20)), none,
  []⟩, ⟨(some 5), (.mov (.c (.int .i64 1))), none, []⟩]) .ret) .skip)))) (.region [⟨(some 21), (.bin .add (.t 13) (.c (.int .i64 1))), none, []⟩, ⟨(some 13), (.mov (.t 21)), none, []⟩]))))))) (.seq (.seq (.region [⟨(some 22), (.mov (.t 0)),
  none, []⟩, ⟨(some 23), (.call (.c (.fn 59 [])) [(.t 22)]), none, []⟩, ⟨(some 24), (.not (.t 23)), none, []⟩, ⟨(some 25), (.mov (.t 24)), none, []⟩, ⟨(some 26), (.mov (.t 1)), (some (25, false)), []⟩, ⟨(some 27), (.len 1 (.t 26)), (some
  (25, false)), []⟩, ⟨(some 28), (.bin .gtr (.t 27) (.c (.int .i64 300))), (some (25, false)), []⟩, ⟨(some 29), (.pick (.t 25) (.c (.bool true)) (.t 28)), none, []⟩]) (.cond (.t 29) (.seq (.region [⟨(some 30), (.build [(.int .i64 0), (.int
  .i64 0), .nils, .nils] []), none, []⟩, ⟨none, (.store none 4 (.t 4) (.t 30)), none, []⟩, ⟨(some 5), (.mov (.c (.int .i64 2))), none, []⟩]) .ret) .skip)) (.seq (.region [⟨(some 8), (.mov (.c (.int .i64 0))), none, []⟩]) (.seq (.seq (.region
  [⟨(some 31), (.mov (.t 1)), none, []⟩, ⟨(some 32), (.len 1 (.t 31)), none, []⟩, ⟨(some 33), (.mov (.c (.int .i64 0))), none, []⟩]) (.block 2 (.loop (.seq (.region [⟨(some 34), (.bin .lss (.t 33) (.t 32)), none, []⟩]) (.seq (.cond (.t 34)
  .skip (.exit 2)) (.seq (.block 3 (.seq (.region [⟨(some 35), (.idx 1 (.t 31) (.t 33)), none, []⟩, ⟨(some 36), (.load none none (.t 35)), none, []⟩, ⟨(some 10), (.mov (.t 36)), none, []⟩]) (.seq (.seq (.region [⟨(some 37), (.mov (.t 10)),
  none, []⟩, ⟨(some 38), (.len 1 (.t 37)), none, []⟩, ⟨(some 39), (.mov (.t 0)), none, []⟩, ⟨(some 40), (.bin .neq (.t 38) (.t 39)), none, []⟩]) (.cond (.t 40) (.seq (.region [⟨(some 41), (.build [(.int .i64 0), (.int .i64 0), .nils, .nils]
  []), none, []⟩, ⟨none, (.store none 4 (.t 4) (.t 41)), none, []⟩, ⟨(some 5), (.mov (.c (.int .i64 2))), none, []⟩]) .ret) .skip)) (.region [⟨(some 42), (.mov (.t 8)), none, []⟩, ⟨(some 43), (.mov (.t 10)), none, []⟩, ⟨(some 44), (.call (.c
  (.fn 41 [])) [(.t 43)]), none, []⟩, ⟨(some 45), (.len 1 (.t 44)), none, []⟩, ⟨(some 46), (.bin .add (.t 42) (.t 45)), none, []⟩, ⟨(some 8), (.mov (.t 46)), none, []⟩])))) (.region [⟨(some 47), (.bin .add (.t 33) (.c (.int .i64 1))), none,
  []⟩, ⟨(some 33), (.mov (.t 47)), none, []⟩]))))))) (.seq (.seq (.region [⟨(some 48), (.mov (.t 8)), none, []⟩, ⟨(some 49), (.bin .gtr (.t 48) (.c (.int .i64 1000))), none, []⟩]) (.cond (.t 49) (.seq (.region [⟨(some 50), (.build [(.int
  .i64 0), (.int .i64 0), .nils, .nils] []), none, []⟩, ⟨none, (.store none 4 (.t 4) (.t 50)), none, []⟩, ⟨(some 5), (.mov (.c (.int .i64 3))), none, []⟩]) .ret) .skip)) (.seq (.region [⟨(some 51), (.mov (.t 0)), none, []⟩, ⟨(some 52), (.mov
  (.t 1)), none, []⟩, ⟨(some 53), (.call (.c (.fn 78 [])) [(.t 51), (.t 52)]), none, []⟩, ⟨(some 54), (.call (.c (.fn 79 [])) [(.t 53)]), none, []⟩, ⟨(some 55), (.ext 0 (.t 54)), none, []⟩, ⟨(some 56), (.ext 1 (.t 54)), none, []⟩, ⟨none,
  (.store none 4 (.t 4) (.t 55)), none, []⟩, ⟨(some 5), (.mov (.t 56)), none, []⟩]) .ret)))))))⟩
theorem irOk50 : compFun Tryd.prog.underlying Tryd.prog.info? sq Tryd.f50 = some ir50 := by kernel_rfl
def ir51 : BFun := ⟨[(.tmp 4)], (.seq (.region [⟨(some 4), (.mov (.c (.int .i64 0))), none, []⟩]) (.seq (.seq (.region [⟨(some 5), (.mov (.c (.int .i64 0))), none, []⟩]) (.block 0 (.loop (.seq (.seq (.region [⟨(some 6), (.mov (.t 5)), none,
  []⟩, ⟨(some 7), (.mov (.t 0)), none, []⟩, ⟨(some 8), (.len 1 (.t 7)), none, []⟩, ⟨(some 9), (.bin .lss (.t 6) (.t 8)), none, []⟩]) (.cond (.t 9) .skip (.exit 0))) (.seq (.block 1 (.seq (.region [⟨(some 12), (.mov (.t 0)), none, []⟩, ⟨(some
  13), (.mov (.t 5)), none, []⟩, ⟨(some 14), (.mov (.t 1)), none, []⟩, ⟨(some 15), (.bin .rem (.t 14) (.c (.int .i64 3))), none, []⟩, ⟨(some 16), (.bin .eql (.t 15) (.c (.int .i64 0))), none, []⟩, ⟨(some 17), (.idx 1 (.t 12) (.t 13)), none,
  []⟩, ⟨none, (.store none 1 (.t 17) (.t 16)), none, []⟩]) (.region [⟨(some 18), (.mov (.t 1)), none, []⟩, ⟨(some 19), (.bin .add (.t 18) (.c (.int .i64 1))), none, []⟩, ⟨(some 1), (.mov (.t 19)), none, []⟩]))) (.region [⟨(some 10), (.mov
  (.t 5)), none, []⟩, ⟨(some 11), (.bin .add (.t 10) (.c (.int .i64 1))), none, []⟩, ⟨(some 5), (.mov (.t 11)), none, []⟩])))))) (.seq (.region [⟨(some 20), (.mov (.t 1)), none, []⟩, ⟨(some 4), (.mov (.t 20)), none, []⟩]) .ret)))⟩
theorem irOk51 : compFun Tryd.prog.underlying Tryd.prog.info? sq Tryd.f51 = some ir51 := by kernel_rfl
def ir52 : BFun := ⟨[(.tmp 4)], (.seq (.region [⟨(some 4), (.mov (.c (.int .i64 0))), none, []⟩]) (.seq (.seq (.region [⟨(some 5), (.mov (.c (.int .i64 0))), none, []⟩]) (.block 0 (.loop (.seq (.seq (.region [⟨(some 6), (.mov (.t 5)), none,
  []⟩, ⟨(some 7), (.mov (.t 0)), none, []⟩, ⟨(some 8), (.len 1 (.t 7)), none, []⟩, ⟨(some 9), (.bin .lss (.t 6) (.t 8)), none, []⟩]) (.cond (.t 9) .skip (.exit 0))) (.seq (.block 1 (.region [⟨(some 12), (.mov (.t 0)), none, []⟩, ⟨(some 13),
  (.mov (.t 5)), none, []⟩, ⟨(some 14), (.idx 1 (.t 12) (.t 13)), none, []⟩, ⟨(some 15), (.load none none (.t 14)), none, []⟩, ⟨(some 16), (.mov (.t 1)), none, []⟩, ⟨(some 17), (.call (.c (.fn 20 [])) [(.t 15), (.t 16)]), none, []⟩, ⟨(some
  1), (.mov (.t 17)), none, []⟩])) (.region [⟨(some 10), (.mov (.t 5)), none, []⟩, ⟨(some 11), (.bin .add (.t 10) (.c (.int .i64 1))), none, []⟩, ⟨(some 5), (.mov (.t 11)), none, []⟩])))))) (.seq (.region [⟨(some 18), (.mov (.t 1)), none,
  []⟩, ⟨(some 4), (.mov (.t 18)), none, []⟩]) .ret)))⟩
theorem irOk52 : compFun Tryd.prog.underlying Tryd.prog.info? sq Tryd.f52 = some ir52 := by kernel_rfl
def ir53 : BFun := ⟨[(.tmp 4)], (.seq (.region [⟨(some 4), (.mov (.c (.int .i64 0))), none, []⟩]) (.seq (.seq (.region [⟨(some 5), (.mov (.c (.int .i64 0))), none, []⟩]) (.block 0 (.loop (.seq (.seq (.region [⟨(some 6), (.mov (.t 5)), none,
  []⟩, ⟨(some 7), (.mov (.t 0)), none, []⟩, ⟨(some 8), (.len 1 (.t 7)), none, []⟩, ⟨(some 9), (.bin .lss (.t 6) (.t 8)), none, []⟩]) (.cond (.t 9) .skip (.exit 0))) (.seq (.block 1 (.seq (.seq (.region [⟨(some 12), (.mov (.t 0)), none, []⟩,
  ⟨(some 13), (.mov (.t 5)), none, []⟩, ⟨(some 14), (.idx 1 (.t 12) (.t 13)), none, []⟩, ⟨(some 15), (.load none none (.t 14)), none, []⟩, ⟨(some 16), (.mov (.t 1)), none, []⟩, ⟨(some 17), (.bin .rem (.t 16) (.c (.int .i64 3))), none, []⟩,
  ⟨(some 18), (.bin .eql (.t 17) (.c (.int .i64 0))), none, []⟩, ⟨(some 19), (.beq true (.t 15) (.t 18)), none, []⟩]) (.cond (.t 19) (.seq (.region [⟨(some 4), (.mov (.c (.int .i64 (-1)))), none, []⟩]) .ret) .skip)) (.region [⟨(some 20),
  (.mov (.t 1)), none, []⟩, ⟨(some 21), (.bin .add (.t 20) (.c (.int .i64 1))), none, []⟩, ⟨(some 1), (.mov (.t 21)), none, []⟩]))) (.region [⟨(some 10), (.mov (.t 5)), none, []⟩, ⟨(some 11), (.bin .add (.t 10) (.c (.int .i64 1))), none,
  []⟩, ⟨(some 5), (.mov (.t 11)), none, []⟩])))))) (.seq (.region [⟨(some 22), (.mov (.t 1)), none, []⟩, ⟨(some 4), (.mov (.t 22)), none, []⟩]) .ret)))⟩
theorem irOk53 : compFun Tryd.prog.underlying Tryd.prog.info? sq Tryd.f53 = some ir53 := by kernel_rfl
def ir54 : BFun := ⟨[(.tmp 4)], (.seq (.region [⟨(some 4), (.mov (.c (.int .i64 0))), none, []⟩]) (.seq (.seq (.region [⟨(some 5), (.mov (.c (.int .i64 0))), none, []⟩]) (.block 0 (.loop (.seq (.seq (.region [⟨(some 6), (.mov (.t 5)), none,
  []⟩, ⟨(some 7), (.mov (.t 0)), none, []⟩, ⟨(some 8), (.len 1 (.t 7)), none, []⟩, ⟨(some 9), (.bin .lss (.t 6) (.t 8)), none, []⟩]) (.cond (.t 9) .skip (.exit 0))) (.seq (.block 1 (.seq (.region [⟨(some 12), (.mov (.t 0)), none, []⟩, ⟨(some
  13), (.mov (.t 5)), none, []⟩, ⟨(some 14), (.idx 1 (.t 12) (.t 13)), none, []⟩, ⟨(some 15), (.load none none (.t 14)), none, []⟩, ⟨(some 16), (.mov (.t 1)), none, []⟩, ⟨(some 17), (.call (.c (.fn 80 [])) [(.t 15), (.t 16)]), none, []⟩,
  ⟨(some 1), (.mov (.t 17)), none, []⟩]) (.seq (.region [⟨(some 18), (.mov (.t 1)), none, []⟩, ⟨(some 19), (.bin .lss (.t 18) (.c (.int .i64 0))), none, []⟩]) (.cond (.t 19) (.seq (.region [⟨(some 4), (.mov (.c (.int .i64 (-1)))), none,
  []⟩]) .ret) .skip)))) (.region [⟨(some 10), (.mov (.t 5)), none, []⟩, ⟨(some 11), (.bin .add (.t 10) (.c (.int .i64 1))), none, []⟩, ⟨(some 5), (.mov (.t 11)), none, []⟩])))))) (.seq (.region [⟨(some 20), (.mov (.t 1)), none, []⟩, ⟨(some
  4), (.mov (.t 20)), none, []⟩]) .ret)))⟩
theorem irOk54 : compFun Tryd.prog.underlying Tryd.prog.info? sq Tryd.f54 = some ir54 := by kernel_rfl
def ir59 : BFun := ⟨[(.tmp 2)], (.seq (.region [⟨(some 2), (.mov (.c (.bool false))), none, []⟩]) (.seq (.region [⟨(some 3), (.mov (.t 0)), none, []⟩, ⟨(some 4), (.call (.c (.fn 38 [])) [(.t 3), (.c (.int .i64 1)), (.c (.int .i64 3))]),
  none, []⟩, ⟨(some 2), (.mov (.t 4)), none, []⟩]) .ret))⟩
theorem irOk59 : compFun Tryd.prog.underlying Tryd.prog.info? sq Tryd.f59 = some ir59 := by kernel_rfl
def ir60 : BFun := ⟨[(.tmp 2)], (.seq (.region [⟨(some 2), (.mov (.c (.int .i64 0))), none, []⟩]) (.seq (.region [⟨(some 3), (.mov (.t 0)), none, []⟩, ⟨(some 4), (.call (.c (.fn 83 [])) [(.t 3)]), none, []⟩, ⟨(some 5), (.bin .sub (.t 4) (.c
  (.int .i64 1))), none, []⟩, ⟨(some 2), (.mov (.t 5)), none, []⟩]) .ret))⟩
theorem irOk60 : compFun Tryd.prog.underlying Tryd.prog.info? sq Tryd.f60 = some ir60 := by kernel_rfl
def ir63 : BFun := ⟨[(.tmp 2)], (.seq (.region [⟨(some 2), (.mov (.c .nils)), none, []⟩]) (.seq (.region [⟨(some 9), (.mk 2 0 [] []), none, []⟩, ⟨(some 3), (.mov (.t 9)), none, []⟩]) (.seq (.region [⟨(some 4), (.mov (.c (.int .i64 0))),
  none, []⟩]) (.block 0 (.loop (.seq (.block 1 (.seq (.region [⟨(some 5), (.mov (.c (.int .i64 0))), none, []⟩]) (.seq (.region [⟨(some 6), (.mov (.c (.bool false))), none, []⟩]) (.seq (.seq (.region [⟨(some 7), (.mov (.c (.int .i64 0))),
  none, []⟩]) (.block 2 (.loop (.seq (.seq (.region [⟨(some 12), (.mov (.t 7)), none, []⟩, ⟨(some 13), (.mov (.t 0)), none, []⟩, ⟨(some 14), (.len 1 (.t 13)), none, []⟩, ⟨(some 15), (.bin .lss (.t 12) (.t 14)), none, []⟩]) (.cond (.t 15)
  .skip (.exit 2))) (.seq (.block 3 (.seq (.region [⟨(some 8), (.mov (.c (.int .i64 2))), none, []⟩]) (.seq (.seq (.region [⟨(some 18), (.mov (.t 4)), none, []⟩, ⟨(some 19), (.mov (.t 0)), none, []⟩, ⟨(some 20), (.mov (.t 7)), none, []⟩,
  ⟨(some 21), (.idx 1 (.t 19) (.t 20)), none, []⟩, ⟨(some 22), (.load none none (.t 21)), none, []⟩, ⟨(some 23), (.len 0 (.t 22)), none, []⟩, ⟨(some 24), (.bin .lss (.t 18) (.t 23)), none, []⟩]) (.cond (.t 24) (.seq (.region [⟨(some 25),
  (.mov (.t 0)), none, []⟩, ⟨(some 26), (.mov (.t 7)), none, []⟩, ⟨(some 27), (.idx 1 (.t 25) (.t 26)), none, []⟩, ⟨(some 28), (.load none none (.t 27)), none, []⟩, ⟨(some 29), (.mov (.t 4)), none, []⟩, ⟨(some 30), (.idxs (.t 28) (.t 29)),
  none, []⟩, ⟨(some 31), (.bin .sub (.t 30) (.c (.int .u8 97))), none, []⟩, ⟨(some 32), (.conv .i64 (.t 31)), none, []⟩, ⟨(some 8), (.mov (.t 32)), none, []⟩]) (.region [⟨(some 6), (.mov (.c (.bool true))), none, []⟩])) .skip)) (.region
  [⟨(some 33), (.mov (.t 5)), none, []⟩, ⟨(some 34), (.mov (.t 8)), none, []⟩, ⟨(some 35), (.mov (.t 7)), none, []⟩, ⟨(some 36), (.call (.c (.fn 91 [])) [(.t 35)]), none, []⟩, ⟨(some 37), (.bin .mul (.t 34) (.t 36)), none, []⟩, ⟨(some 38),
  (.bin .add (.t 33) (.t 37)), none, []⟩, ⟨(some 5), (.mov (.t 38)), none, []⟩])))) (.region [⟨(some 16), (.mov (.t 7)), none, []⟩, ⟨(some 17), (.bin .add (.t 16) (.c (.int .i64 1))), none, []⟩, ⟨(some 7), (.mov (.t 17)), none, []⟩]))))))
  (.seq (.seq (.region [⟨(some 39), (.mov (.t 6)), none, []⟩, ⟨(some 40), (.not (.t 39)), none, []⟩]) (.cond (.t 40) (.seq (.region [⟨(some 41), (.mov (.t 3)), none, []⟩, ⟨(some 2), (.mov (.t 41)), none, []⟩]) .ret) .skip)) (.region [⟨(some
  42), (.mov (.t 3)), none, []⟩, ⟨(some 43), (.mov (.t 5)), none, []⟩, ⟨(some 44), (.mk 2 1 [(.int .i64 0)] [(0, (1, (.t 43)))]), none, []⟩, ⟨(some 45), (.app 2 1 8 (.t 42) (.t 44)), none, []⟩, ⟨(some 3), (.mov (.t 45)), none, []⟩]))))))
  (.region [⟨(some 10), (.mov (.t 4)), none, []⟩, ⟨(some 11), (.bin .add (.t 10) (.c (.int .i64 1))), none, []⟩, ⟨(some 4), (.mov (.t 11)), none, []⟩])))))))⟩
theorem irOk63 : compFun Tryd.prog.underlying Tryd.prog.info? sq Tryd.f63 = some ir63 := by kernel_rfl
def ir64 : BFun := ⟨[(.tmp 2)], (.seq (.region [⟨(some 2), (.mov (.c .nils)), none, []⟩]) (.seq (.seq (.region [⟨(some 3), (.mov (.t 0)), none, []⟩, ⟨(some 4), (.isnil false (.t 3)), none, []⟩]) (.cond (.t 4) (.seq (.region [⟨(some 2), (.mov
  (.c .nils)), none, []⟩]) .ret) .skip)) (.seq (.region [⟨(some 5), (.mk 4 0 [] []), none, []⟩, ⟨(some 6), (.mov (.t 0)), none, []⟩, ⟨(some 7), (.app 4 1 1 (.t 5) (.t 6)), none, []⟩, ⟨(some 2), (.mov (.t 7)), none, []⟩]) .ret)))⟩
theorem irOk64 : compFun Tryd.prog.underlying Tryd.prog.info? sq Tryd.f64 = some ir64 := by kernel_rfl
def ir65 : BFun := ⟨[(.tmp 2)], (.seq (.region [⟨(some 2), (.mov (.c (.int .i64 0))), none, []⟩]) (.seq (.region [⟨(some 3), (.mov (.c (.int .i64 0))), none, []⟩]) (.seq (.seq (.region [⟨(some 5), (.mov (.t 0)), none, []⟩, ⟨(some 6), (.len 1
  (.t 5)), none, []⟩, ⟨(some 7), (.bin .sub (.t 6) (.c (.int .i64 1))), none, []⟩, ⟨(some 4), (.mov (.t 7)), none, []⟩]) (.block 0 (.loop (.seq (.seq (.region [⟨(some 8), (.mov (.t 4)), none, []⟩, ⟨(some 9), (.bin .geq (.t 8) (.c (.int .i64
  0))), none, []⟩]) (.cond (.t 9) .skip (.exit 0))) (.seq (.block 1 (.region [⟨(some 12), (.mov (.t 3)), none, []⟩, ⟨(some 13), (.bin .mul (.c (.int .i64 3)) (.t 12)), none, []⟩, ⟨(some 14), (.mov (.t 0)), none, []⟩, ⟨(some 15), (.mov (.t
  4)), none, []⟩, ⟨(some 16), (.idx 1 (.t 14) (.t 15)), none, []⟩, ⟨(some 17), (.load none none (.t 16)), none, []⟩, ⟨(some 18), (.bin .add (.t 13) (.t 17)), none, []⟩, ⟨(some 3), (.mov (.t 18)), none, []⟩])) (.region [⟨(some 10), (.mov (.t
  4)), none, []⟩, ⟨(some 11), (.bin .sub (.t 10) (.c (.int .i64 1))), none, []⟩, ⟨(some 4), (.mov (.t 11)), none, []⟩])))))) (.seq (.region [⟨(some 19), (.mov (.t 3)), none, []⟩, ⟨(some 2), (.mov (.t 19)), none, []⟩]) .ret))))⟩
theorem irOk65 : compFun Tryd.prog.underlying Tryd.prog.info? sq Tryd.f65 = some ir65 := by kernel_rfl
def ir66 : BFun := ⟨[(.cell 2 (some 4))], (.seq (.region [⟨(some 2), (.new 29 [(.int .i64 0), (.int .i64 0), .nils, .nils]), none, []⟩]) (.seq (.region [⟨(some 17), (.mov (.t 0)), none, []⟩, ⟨(some 18), (.call (.c (.fn 92 [])) [(.t 17)]),
  none, []⟩, ⟨(some 3), (.new 29 [(.int .i64 0), (.int .i64 0), .nils, .nils]), none, []⟩, ⟨none, (.store none 4 (.t 3) (.t 18)), none, []⟩]) (.seq (.region [⟨(some 19), (.lea 2 (.t 3)), none, []⟩, ⟨(some 20), (.load none none (.t 19)),
  none, []⟩, ⟨(some 21), (.len 1 (.t 20)), none, []⟩, ⟨(some 22), (.mksl 2 8 [(.int .i64 0)] (.t 21) (.t 21)), none, []⟩, ⟨(some 4), (.mov (.t 22)), none, []⟩]) (.seq (.seq (.region [⟨(some 5), (.mov (.c (.int .i64 0))), none, []⟩]) (.block
  0 (.loop (.seq (.seq (.region [⟨(some 23), (.mov (.t 5)), none, []⟩, ⟨(some 24), (.lea 2 (.t 3)), none, []⟩, ⟨(some 25), (.load none none (.t 24)), none, []⟩, ⟨(some 26), (.len 1 (.t 25)), none, []⟩, ⟨(some 27), (.bin .lss (.t 23) (.t
  26)), none, []⟩]) (.cond (.t 27) .skip (.exit 0))) (.seq (.block 1 (.seq (.region [⟨(some 30), (.lea 2 (.t 3)), none, []⟩, ⟨(some 31), (.load none none (.t 30)), none, []⟩, ⟨(some 32), (.mov (.t 5)), none, []⟩, ⟨(some 33), (.idx 1 (.t 31)
  (.t 32)), none, []⟩, ⟨(some 34), (.load none none (.t 33)), none, []⟩]) (.cond (.t 34) (.region [⟨(some 35), (.mov (.t 4)), none, []⟩, ⟨(some 36), (.mov (.t 5)), none, []⟩, ⟨(some 37), (.idx 1 (.t 35) (.t 36)), none, []⟩, ⟨none, (.store
  none 1 (.t 37) (.c (.int .i64 1))), none, []⟩]) .skip))) (.region [⟨(some 28), (.mov (.t 5)), none, []⟩, ⟨(some 29), (.bin .add (.t 28) (.c (.int .i64 1))), none, []⟩, ⟨(some 5), (.mov (.t 29)), none, []⟩])))))) (.seq (.region [⟨(some 6),
  (.mov (.c (.int .i64 0))), none, []⟩]) (.seq (.block 2 (.loop (.block 3 (.seq (.region [⟨(some 39), (.mov (.t 4)), none, []⟩, ⟨(some 40), (.call (.c (.fn 93 [])) [(.t 3), (.t 39)]), none, []⟩, ⟨(some 38), (.mov (.t 40)), none, []⟩, ⟨(some
  41), (.ext 0 (.t 38)), none, []⟩, ⟨(some 42), (.ext 1 (.t 38)), none, []⟩, ⟨(some 7), (.mov (.t 41)), none, []⟩, ⟨(some 8), (.mov (.t 42)), none, []⟩]) (.seq (.region [⟨(some 43), (.mov (.t 7)), none, []⟩, ⟨(some 4), (.mov (.t 43)), none,
  []⟩]) (.seq (.seq (.region [⟨(some 44), (.mov (.t 8)), none, []⟩, ⟨(some 45), (.mov (.t 6)), none, []⟩, ⟨(some 46), (.bin .eql (.t 44) (.t 45)), none, []⟩]) (.cond (.t 46) (.exit 2) .skip)) (.region [⟨(some 47), (.mov (.t 8)), none, []⟩,
  ⟨(some 6), (.mov (.t 47)), none, []⟩]))))))) (.seq (.region [⟨(some 48), (.mov (.t 6)), none, []⟩, ⟨(some 49), (.mksl 2 8 [(.int .i64 0)] (.t 48) (.t 48)), none, []⟩, ⟨(some 9), (.mov (.t 49)), none, []⟩]) (.seq (.seq (.region [⟨(some 10),
  (.mov (.c (.int .i64 0))), none, []⟩]) (.block 4 (.loop (.seq (.seq (.region [⟨(some 50), (.mov (.t 10)), none, []⟩, ⟨(some 51), (.mov (.t 6)), none, []⟩, ⟨(some 52), (.bin .lss (.t 50) (.t 51)), none, []⟩]) (.cond (.t 52) .skip (.exit
  4))) (.seq (.block 5 (.region [⟨(some 55), (.mov (.t 9)), none, []⟩, ⟨(some 56), (.mov (.t 10)), none, []⟩, ⟨(some 57), (.idx 1 (.t 55) (.t 56)), none, []⟩, ⟨none, (.store none 1 (.t 57) (.c (.int .i64 (-1)))), none, []⟩])) (.region
  [⟨(some 53), (.mov (.t 10)), none, []⟩, ⟨(some 54), (.bin .add (.t 53) (.c (.int .i64 1))), none, []⟩, ⟨(some 10), (.mov (.t 54)), none, []⟩])))))) (.seq (.region [⟨(some 58), (.lea 1 (.t 3)), none, []⟩, ⟨(some 59), (.load none none (.t
  58)), none, []⟩, ⟨(some 60), (.mk 2 1 [(.int .i64 0)] [(0, (1, (.t 59)))]), none, []⟩, ⟨(some 11), (.mov (.t 60)), none, []⟩]) (.seq (.region [⟨(some 61), (.mov (.t 9)), none, []⟩, ⟨(some 62), (.mov (.t 4)), none, []⟩, ⟨(some 63), (.lea 1
  (.t 3)), none, []⟩, ⟨(some 64), (.load none none (.t 63)), none, []⟩, ⟨(some 65), (.idx 1 (.t 62) (.t 64)), none, []⟩, ⟨(some 66), (.load none none (.t 65)), none, []⟩, ⟨(some 67), (.idx 1 (.t 61) (.t 66)), none, []⟩, ⟨none, (.store none 1
  (.t 67) (.c (.int .i64 0))), none, []⟩]) (.seq (.region [⟨(some 68), (.mov (.t 0)), none, []⟩, ⟨(some 69), (.nilck (.t 68)), none, []⟩, ⟨(some 70), (.lea 0 (.t 69)), none, []⟩, ⟨(some 71), (.load none none (.t 70)), none, []⟩, ⟨(some 72),
  (.build [(.int .i64 0), (.int .i64 0), .nils, .nils] [(0, (1, (.t 71)))]), none, []⟩, ⟨(some 12), (.new 29 [(.int .i64 0), (.int .i64 0), .nils, .nils]), none, []⟩, ⟨none, (.store none 4 (.t 12) (.t 72)), none, []⟩]) (.seq (.seq (.region
  [⟨(some 13), (.mov (.c (.int .i64 0))), none, []⟩]) (.block 6 (.loop (.seq (.seq (.region [⟨(some 73), (.mov (.t 13)), none, []⟩, ⟨(some 74), (.mov (.t 11)), none, []⟩, ⟨(some 75), (.len 1 (.t 74)), none, []⟩, ⟨(some 76), (.bin .lss (.t
  73) (.t 75)), none, []⟩]) (.cond (.t 76) .skip (.exit 6))) (.seq (.block 7 (.seq (.region [⟨(some 79), (.mk 2 0 [] []), none, []⟩, ⟨(some 14), (.mov (.t 79)), none, []⟩]) (.seq (.seq (.region [⟨(some 15), (.mov (.c (.int .i64 0))), none,
  []⟩]) (.block 8 (.loop (.seq (.seq (.region [⟨(some 80), (.mov (.t 15)), none, []⟩, ⟨(some 81), (.lea 3 (.t 3)), none, []⟩, ⟨(some 82), (.load none none (.t 81)), none, []⟩, ⟨(some 83), (.mov (.t 11)), none, []⟩, ⟨(some 84), (.mov (.t
  13)), none, []⟩, ⟨(some 85), (.idx 1 (.t 83) (.t 84)), none, []⟩, ⟨(some 86), (.load none none (.t 85)), none, []⟩, ⟨(some 87), (.idx 1 (.t 82) (.t 86)), none, []⟩, ⟨(some 88), (.load none none (.t 87)), none, []⟩, ⟨(some 89), (.len 1 (.t
  88)), none, []⟩, ⟨(some 90), (.bin .lss (.t 80) (.t 89)), none, []⟩]) (.cond (.t 90) .skip (.exit 8))) (.seq (.block 9 (.seq (.region [⟨(some 93), (.lea 3 (.t 3)), none, []⟩, ⟨(some 94), (.load none none (.t 93)), none, []⟩, ⟨(some 95),
  (.mov (.t 11)), none, []⟩, ⟨(some 96), (.mov (.t 13)), none, []⟩, ⟨(some 97), (.idx 1 (.t 95) (.t 96)), none, []⟩, ⟨(some 98), (.load none none (.t 97)), none, []⟩, ⟨(some 99), (.idx 1 (.t 94) (.t 98)), none, []⟩, ⟨(some 100), (.load none
  none (.t 99)), none, []⟩, ⟨(some 101), (.mov (.t 15)), none, []⟩, ⟨(some 102), (.idx 1 (.t 100) (.t 101)), none, []⟩, ⟨(some 103), (.load none none (.t 102)), none, []⟩, ⟨(some 16), (.mov (.t 103)), none, []⟩]) (.seq (.seq (.region [⟨(some
  104), (.mov (.t 9)), none, []⟩, ⟨(some 105), (.mov (.t 4)), none, []⟩, ⟨(some 106), (.mov (.t 16)), none, []⟩, ⟨(some 107), (.idx 1 (.t 105) (.t 106)), none, []⟩, ⟨(some 108), (.load none none (.t 107)), none, []⟩, ⟨(some 109), (.idx 1 (.t
  104) (.t 108)), none, []⟩, ⟨(some 110), (.load none none (.t 109)), none, []⟩, ⟨(some 111), (.bin .lss (.t 110) (.c (.int .i64 0))), none, []⟩]) (.cond (.t 111) (.seq (.region [⟨(some 112), (.mov (.t 9)), none, []⟩, ⟨(some 113), (.mov (.t
  4)), none, []⟩, ⟨(some 114), (.mov (.t 16)), none, []⟩, ⟨(some 115), (.idx 1 (.t 113) (.t 114)), none, []⟩, ⟨(some 116), (.load none none (.t 115)), none, []⟩, ⟨(some 117), (.mov (.t 11)), none, []⟩, ⟨(some 118), (.len 1 (.t 117)), none,
  []⟩, ⟨(some 119), (.idx 1 (.t 112) (.t 116)), none, []⟩, ⟨none, (.store none 1 (.t 119) (.t 118)), none, []⟩]) (.region [⟨(some 120), (.mov (.t 11)), none, []⟩, ⟨(some 121), (.mov (.t 16)), none, []⟩, ⟨(some 122), (.mk 2 1 [(.int .i64 0)]
  [(0, (1, (.t 121)))]), none, []⟩, ⟨(some 123), (.app 2 1 8 (.t 120) (.t 122)), none, []⟩, ⟨(some 11), (.mov (.t 123)), none, []⟩])) .skip)) (.region [⟨(some 124), (.mov (.t 14)), none, []⟩, ⟨(some 125), (.mov (.t 9)), none, []⟩, ⟨(some
  126), (.mov (.t 4)), none, []⟩, ⟨(some 127), (.mov (.t 16)), none, []⟩, ⟨(some 128), (.idx 1 (.t 126) (.t 127)), none, []⟩, ⟨(some 129), (.load none none (.t 128)), none, []⟩, ⟨(some 130), (.idx 1 (.t 125) (.t 129)), none, []⟩, ⟨(some
  131), (.load none none (.t 130)), none, []⟩, ⟨(some 132), (.mk 2 1 [(.int .i64 0)] [(0, (1, (.t 131)))]), none, []⟩, ⟨(some 133), (.app 2 1 8 (.t 124) (.t 132)), none, []⟩, ⟨(some 14), (.mov (.t 133)), none, []⟩])))) (.region [⟨(some 91),
  (.mov (.t 15)), none, []⟩, ⟨(some 92), (.bin .add (.t 91) (.c (.int .i64 1))), none, []⟩, ⟨(some 15), (.mov (.t 92)), none, []⟩])))))) (.seq (.region [⟨(some 134), (.lea 2 (.t 12)), none, []⟩, ⟨(some 135), (.load none none (.t 134)), none,
  []⟩, ⟨(some 136), (.lea 2 (.t 3)), none, []⟩, ⟨(some 137), (.load none none (.t 136)), none, []⟩, ⟨(some 138), (.mov (.t 11)), none, []⟩, ⟨(some 139), (.mov (.t 13)), none, []⟩, ⟨(some 140), (.idx 1 (.t 138) (.t 139)), none, []⟩, ⟨(some
  141), (.load none none (.t 140)), none, []⟩, ⟨(some 142), (.idx 1 (.t 137) (.t 141)), none, []⟩, ⟨(some 143), (.load none none (.t 142)), none, []⟩, ⟨(some 144), (.mk 4 1 [(.bool false)] [(0, (1, (.t 143)))]), none, []⟩, ⟨(some 145), (.app
  4 1 1 (.t 135) (.t 144)), none, []⟩, ⟨(some 146), (.lea 2 (.t 12)), none, []⟩, ⟨none, (.store none 1 (.t 146) (.t 145)), none, []⟩]) (.region [⟨(some 147), (.lea 3 (.t 12)), none, []⟩, ⟨(some 148), (.load none none (.t 147)), none, []⟩,
  ⟨(some 149), (.mov (.t 14)), none, []⟩, ⟨(some 150), (.mk 37 1 [.nils] [(0, (1, (.t 149)))]), none, []⟩, ⟨(some 151), (.app 37 1 24 (.t 148) (.t 150)), none, []⟩, ⟨(some 152), (.lea 3 (.t 12)), none, []⟩, ⟨none, (.store none 1 (.t 152) (.t
  151)), none, []⟩]))))) (.region [⟨(some 77), (.mov (.t 13)), none, []⟩, ⟨(some 78), (.bin .add (.t 77) (.c (.int .i64 1))), none, []⟩, ⟨(some 13), (.mov (.t 78)), none, []⟩])))))) (.seq (.region [⟨(some 153), (.load none (some 4) (.t 12)),
  none, []⟩, ⟨none, (.store none 4 (.t 2) (.t 153)), none, []⟩]) .ret)))))))))))))⟩
theorem irOk66 : compFun Tryd.prog.underlying Tryd.prog.info? sq Tryd.f66 = some ir66 := by kernel_rfl
def ir71 : BFun := ⟨[(.cell 2 (some 4))], (.seq (.region [⟨(some 1), (.box 62 (.t 0)), none, []⟩, ⟨(some 2), (.new 62 [(.int .i64 0), (.int .i64 0), .nils, .nils]), none, []⟩]) (.seq (.region [⟨(some 9), (.lea 0 (.t 1)), none, []⟩, ⟨(some
  10), (.load none none (.t 9)), none, []⟩, ⟨(some 11), (.call (.c (.fn 60 [])) [(.t 10)]), none, []⟩, ⟨(some 12), (.mksl 3 8 [(.int .i64 0)] (.t 11) (.t 11)), none, []⟩, ⟨(some 3), (.new 65 [.nils]), none, []⟩, ⟨none, (.store none 1 (.t 3)
  (.t 12)), none, []⟩]) (.seq (.seq (.region [⟨(some 13), (.load none none (.t 3)), none, []⟩, ⟨(some 14), (.len 1 (.t 13)), none, []⟩, ⟨(some 15), (.mov (.c (.int .i64 0))), none, []⟩]) (.block 0 (.loop (.seq (.region [⟨(some 16), (.bin
  .lss (.t 15) (.t 14)), none, []⟩]) (.seq (.cond (.t 16) .skip (.exit 0)) (.seq (.block 1 (.seq (.region [⟨(some 17), (.mov (.t 15)), none, []⟩, ⟨(some 4), (.mov (.t 17)), none, []⟩]) (.seq (.region [⟨(some 18), (.lea 0 (.t 1)), none, []⟩,
  ⟨(some 19), (.load none none (.t 18)), none, []⟩, ⟨(some 20), (.mov (.t 4)), none, []⟩, ⟨(some 21), (.call (.c (.fn 99 [])) [(.t 19), (.t 20)]), none, []⟩, ⟨(some 22), (.len 1 (.t 21)), none, []⟩, ⟨(some 23), (.mov (.c (.int .i64 0))),
  none, []⟩]) (.block 2 (.loop (.seq (.region [⟨(some 24), (.bin .lss (.t 23) (.t 22)), none, []⟩]) (.seq (.cond (.t 24) .skip (.exit 2)) (.seq (.block 3 (.seq (.region [⟨(some 25), (.mov (.t 23)), none, []⟩, ⟨(some 26), (.idx 1 (.t 21) (.t
  23)), none, []⟩, ⟨(some 27), (.load none none (.t 26)), none, []⟩, ⟨(some 5), (.mov (.t 25)), none, []⟩, ⟨(some 6), (.mov (.t 27)), none, []⟩]) (.seq (.region [⟨(some 28), (.mov (.t 6)), none, []⟩, ⟨(some 29), (.bin .eql (.t 28) (.c (.int
  .i64 2))), none, []⟩]) (.cond (.t 29) (.region [⟨(some 30), (.load none none (.t 3)), none, []⟩, ⟨(some 31), (.mov (.t 4)), none, []⟩, ⟨(some 32), (.idx 1 (.t 30) (.t 31)), none, []⟩, ⟨(some 33), (.load none none (.t 32)), none, []⟩,
  ⟨(some 34), (.mov (.t 5)), none, []⟩, ⟨(some 35), (.bin .shl (.c (.int .i64 1)) (.t 34)), none, []⟩, ⟨(some 36), (.bin .or (.t 33) (.t 35)), none, []⟩, ⟨(some 37), (.idx 1 (.t 30) (.t 31)), none, []⟩, ⟨none, (.store none 1 (.t 37) (.t
  36)), none, []⟩]) .skip)))) (.region [⟨(some 38), (.bin .add (.t 23) (.c (.int .i64 1))), none, []⟩, ⟨(some 23), (.mov (.t 38)), none, []⟩]))))))))) (.region [⟨(some 39), (.bin .add (.t 15) (.c (.int .i64 1))), none, []⟩, ⟨(some 15), (.mov
  (.t 39)), none, []⟩]))))))) (.seq (.region [⟨(some 41), (.lea 0 (.t 1)), none, []⟩, ⟨(some 42), (.load none none (.t 41)), none, []⟩, ⟨(some 43), (.lea 1 (.t 1)), none, []⟩, ⟨(some 44), (.load none none (.t 43)), none, []⟩, ⟨(some 45),
  (.build [(.int .i64 0), (.int .i64 0)] [(0, (1, (.t 44)))]), none, []⟩, ⟨(some 46), (.mkfn 101 [(.t 1)]), none, []⟩, ⟨(some 47), (.mkfn 102 [(.t 3), (.t 1)]), none, []⟩, ⟨(some 48), (.call (.c (.fn 100 [])) [(.t 42), (.t 45), (.c (.int
  .i64 0)), (.t 46), (.t 47)]), none, []⟩, ⟨(some 40), (.mov (.t 48)), none, []⟩, ⟨(some 49), (.ext 0 (.t 40)), none, []⟩, ⟨(some 50), (.ext 1 (.t 40)), none, []⟩, ⟨(some 7), (.new 62 [(.int .i64 0), (.int .i64 0), .nils, .nils]), none, []⟩,
  ⟨none, (.store none 4 (.t 7) (.t 49)), none, []⟩, ⟨(some 8), (.mov (.t 50)), none, []⟩]) (.seq (.region [⟨(some 51), (.load none (some 4) (.t 7)), none, []⟩, ⟨(some 52), (.call (.c (.fn 103 [])) [(.t 51)]), none, []⟩, ⟨none, (.store none 4
  (.t 2) (.t 52)), none, []⟩]) .ret)))))⟩
theorem irOk71 : compFun Tryd.prog.underlying Tryd.prog.info? sq Tryd.f71 = some ir71 := by kernel_rfl
def ir73 : BFun := ⟨[(.tmp 2)], (.seq (.region [⟨(some 2), (.mov (.c (.bool false))), none, []⟩]) (.seq (.seq (.region [⟨(some 3), (.mov (.c (.int .i64 0))), none, []⟩]) (.block 0 (.loop (.seq (.seq (.region [⟨(some 4), (.mov (.t 3)), none,
  []⟩, ⟨(some 5), (.mov (.t 0)), none, []⟩, ⟨(some 6), (.len 1 (.t 5)), none, []⟩, ⟨(some 7), (.bin .lss (.t 4) (.t 6)), none, []⟩]) (.cond (.t 7) .skip (.exit 0))) (.seq (.block 1 (.seq (.region [⟨(some 10), (.mov (.t 0)), none, []⟩, ⟨(some
  11), (.mov (.t 3)), none, []⟩, ⟨(some 12), (.idx 1 (.t 10) (.t 11)), none, []⟩, ⟨(some 13), (.load none none (.t 12)), none, []⟩, ⟨(some 14), (.call (.c (.fn 104 [])) [(.t 13)]), none, []⟩, ⟨(some 15), (.not (.t 14)), none, []⟩]) (.cond
  (.t 15) (.seq (.region [⟨(some 2), (.mov (.c (.bool false))), none, []⟩]) .ret) .skip))) (.region [⟨(some 8), (.mov (.t 3)), none, []⟩, ⟨(some 9), (.bin .add (.t 8) (.c (.int .i64 1))), none, []⟩, ⟨(some 3), (.mov (.t 9)), none, []⟩]))))))
  (.seq (.region [⟨(some 2), (.mov (.c (.bool true))), none, []⟩]) .ret)))⟩
theorem irOk73 : compFun Tryd.prog.underlying Tryd.prog.info? sq Tryd.f73 = some ir73 := by kernel_rfl
def ir74 : BFun := ⟨[(.tmp 2)], (.seq (.region [⟨(some 2), (.mov (.c (.int .i64 0))), none, []⟩]) (.seq (.region [⟨(some 3), (.mov (.t 0)), none, []⟩, ⟨(some 4), (.call (.c (.fn 91 [])) [(.t 3)]), none, []⟩, ⟨(some 5), (.bin .sub (.t 4) (.c
  (.int .i64 1))), none, []⟩, ⟨(some 2), (.mov (.t 5)), none, []⟩]) .ret))⟩
theorem irOk74 : compFun Tryd.prog.underlying Tryd.prog.info? sq Tryd.f74 = some ir74 := by kernel_rfl
def ir75 : BFun := ⟨[(.tmp 2)], (.seq (.region [⟨(some 2), (.mov (.c .nils)), none, []⟩]) (.seq (.region [⟨(some 3), (.mk 2 0 [] []), none, []⟩, ⟨(some 4), (.mov (.t 0)), none, []⟩, ⟨(some 5), (.app 2 1 8 (.t 3) (.t 4)), none, []⟩, ⟨(some
  2), (.mov (.t 5)), none, []⟩]) .ret))⟩
theorem irOk75 : compFun Tryd.prog.underlying Tryd.prog.info? sq Tryd.f75 = some ir75 := by kernel_rfl
def ir76 : BFun := ⟨[(.cell 2 (some 4)), (.tmp 3)], (.seq (.region [⟨(some 1), (.box 29 (.t 0)), none, []⟩, ⟨(some 2), (.new 29 [(.int .i64 0), (.int .i64 0), .nils, .nils]), none, []⟩, ⟨(some 3), (.mov (.c (.int .i64 0))), none, []⟩]) (.seq
  (.seq (.region [⟨(some 4), (.lea 2 (.t 1)), none, []⟩, ⟨(some 5), (.load none none (.t 4)), none, []⟩, ⟨(some 6), (.len 1 (.t 5)), none, []⟩, ⟨(some 7), (.bin .gtr (.t 6) (.c (.int .i64 150))), none, []⟩]) (.cond (.t 7) (.seq (.region
  [⟨(some 8), (.build [(.int .i64 0), (.int .i64 0), .nils, .nils] []), none, []⟩, ⟨none, (.store none 4 (.t 2) (.t 8)), none, []⟩, ⟨(some 3), (.mov (.c (.int .i64 3))), none, []⟩]) .ret) .skip)) (.seq (.region [⟨(some 9), (.load none (some
  4) (.t 1)), none, []⟩, ⟨none, (.store none 4 (.t 2) (.t 9)), none, []⟩, ⟨(some 3), (.mov (.c (.int .i64 0))), none, []⟩]) .ret)))⟩
theorem irOk76 : compFun Tryd.prog.underlying Tryd.prog.info? sq Tryd.f76 = some ir76 := by kernel_rfl
def ir77 : BFun := ⟨[(.tmp 2)], (.seq (.region [⟨(some 2), (.mov (.c (.bool false))), none, []⟩]) (.seq (.seq (.region [⟨(some 5), (.mov (.t 0)), none, []⟩, ⟨(some 6), (.len 1 (.t 5)), none, []⟩, ⟨(some 7), (.mov (.c (.int .i64 0))), none,
  []⟩]) (.block 0 (.loop (.seq (.region [⟨(some 8), (.bin .lss (.t 7) (.t 6)), none, []⟩]) (.seq (.cond (.t 8) .skip (.exit 0)) (.seq (.block 1 (.seq (.region [⟨(some 9), (.idx 1 (.t 5) (.t 7)), none, []⟩, ⟨(some 10), (.load none none (.t
  9)), none, []⟩, ⟨(some 4), (.mov (.t 10)), none, []⟩]) (.seq (.region [⟨(some 11), (.mov (.t 4)), none, []⟩, ⟨(some 12), (.call (.c (.fn 105 [])) [(.t 11)]), none, []⟩, ⟨(some 13), (.not (.t 12)), none, []⟩]) (.cond (.t 13) (.seq (.region
  [⟨(some 2), (.mov (.c (.bool false))), none, []⟩]) .ret) .skip)))) (.region [⟨(some 14), (.bin .add (.t 7) (.c (.int .i64 1))), none, []⟩, ⟨(some 7), (.mov (.t 14)), none, []⟩]))))))) (.seq (.region [⟨(some 2), (.mov (.c (.bool true))),
  none, []⟩]) .ret)))⟩
theorem irOk77 : compFun Tryd.prog.underlying Tryd.prog.info? sq Tryd.f77 = some ir77 := by kernel_rfl
def ir78 : BFun := ⟨[(.cell 4 (some 4))], (.seq (.region [⟨(some 4), (.new 62 [(.int .i64 0), (.int .i64 0), .nils, .nils]), none, []⟩]) (.seq (.region [⟨(some 14), .mkmap, none, []⟩, ⟨(some 5), (.new 118 [.nilm]), none, []⟩, ⟨none, (.store
  none 1 (.t 5) (.t 14)), none, []⟩]) (.seq (.region [⟨(some 15), .mkmap, none, []⟩, ⟨(some 6), (.new 118 [.nilm]), none, []⟩, ⟨none, (.store none 1 (.t 6) (.t 15)), none, []⟩]) (.seq (.seq (.region [⟨(some 16), (.mov (.t 1)), none, []⟩,
  ⟨(some 17), (.len 1 (.t 16)), none, []⟩, ⟨(some 18), (.mov (.c (.int .i64 0))), none, []⟩]) (.block 0 (.loop (.seq (.region [⟨(some 19), (.bin .lss (.t 18) (.t 17)), none, []⟩]) (.seq (.cond (.t 19) .skip (.exit 0)) (.seq (.block 1 (.seq
  (.region [⟨(some 20), (.idx 1 (.t 16) (.t 18)), none, []⟩, ⟨(some 21), (.load none none (.t 20)), none, []⟩, ⟨(some 8), (.mov (.t 21)), none, []⟩]) (.seq (.region [⟨(some 9), (.mov (.c (.str ⟨#[]⟩))), none, []⟩]) (.seq (.region [⟨(some
  22), (.load none none (.t 6)), none, []⟩, ⟨(some 23), (.mov (.t 9)), none, []⟩, ⟨none, (.mset 1 (.t 22) (.t 23) (.c (.bool true))), none, []⟩]) (.seq (.seq (.region [⟨(some 24), (.mov (.t 8)), none, []⟩, ⟨(some 25), (.call (.c (.fn 41 []))
  [(.t 24)]), none, []⟩, ⟨(some 26), (.len 1 (.t 25)), none, []⟩, ⟨(some 27), (.mov (.c (.int .i64 0))), none, []⟩]) (.block 2 (.loop (.seq (.region [⟨(some 28), (.bin .lss (.t 27) (.t 26)), none, []⟩]) (.seq (.cond (.t 28) .skip (.exit 2))
  (.seq (.block 3 (.seq (.region [⟨(some 29), (.idx 1 (.t 25) (.t 27)), none, []⟩, ⟨(some 30), (.load none none (.t 29)), none, []⟩, ⟨(some 11), (.mov (.t 30)), none, []⟩]) (.seq (.region [⟨(some 31), (.mov (.t 9)), none, []⟩, ⟨(some 32),
  (.mov (.t 11)), none, []⟩, ⟨(some 33), (.bin .add (.c (.int .i64 65)) (.t 32)), none, []⟩, ⟨(some 34), (.conv .i32 (.t 33)), none, []⟩, ⟨(some 35), (.i2s (.t 34)), none, []⟩, ⟨(some 36), (.bin .add (.t 31) (.t 35)), none, []⟩, ⟨(some 9),
  (.mov (.t 36)), none, []⟩]) (.region [⟨(some 37), (.load none none (.t 6)), none, []⟩, ⟨(some 38), (.mov (.t 9)), none, []⟩, ⟨none, (.mset 1 (.t 37) (.t 38) (.c (.bool true))), none, []⟩])))) (.region [⟨(some 39), (.bin .add (.t 27) (.c
  (.int .i64 1))), none, []⟩, ⟨(some 27), (.mov (.t 39)), none, []⟩]))))))) (.region [⟨(some 40), (.load none none (.t 5)), none, []⟩, ⟨(some 41), (.mov (.t 9)), none, []⟩, ⟨none, (.mset 1 (.t 40) (.t 41) (.c (.bool true))), none, []⟩]))))))
  (.region [⟨(some 42), (.bin .add (.t 18) (.c (.int .i64 1))), none, []⟩, ⟨(some 18), (.mov (.t 42)), none, []⟩]))))))) (.seq (.region [⟨(some 44), (.mov (.t 0)), none, []⟩, ⟨(some 45), (.mkfn 107 [(.t 5)]), none, []⟩, ⟨(some 46), (.mkfn
  108 [(.t 6)]), none, []⟩, ⟨(some 47), (.call (.c (.fn 106 [])) [(.t 44), (.c (.str ⟨#[]⟩)), (.c (.int .i64 0)), (.t 45), (.t 46)]), none, []⟩, ⟨(some 43), (.mov (.t 47)), none, []⟩, ⟨(some 48), (.ext 0 (.t 43)), none, []⟩, ⟨(some 49),
  (.ext 1 (.t 43)), none, []⟩, ⟨(some 12), (.new 62 [(.int .i64 0), (.int .i64 0), .nils, .nils]), none, []⟩, ⟨none, (.store none 4 (.t 12) (.t 48)), none, []⟩, ⟨(some 13), (.mov (.t 49)), none, []⟩]) (.seq (.region [⟨(some 50), (.load none
  (some 4) (.t 12)), none, []⟩, ⟨none, (.store none 4 (.t 4) (.t 50)), none, []⟩]) .ret))))))⟩
theorem irOk78 : compFun Tryd.prog.underlying Tryd.prog.info? sq Tryd.f78 = some ir78 := by kernel_rfl
def ir79 : BFun := ⟨[(.cell 2 (some 4)), (.tmp 3)], (.seq (.region [⟨(some 1), (.box 62 (.t 0)), none, []⟩, ⟨(some 2), (.new 29 [(.int .i64 0), (.int .i64 0), .nils, .nils]), none, []⟩, ⟨(some 3), (.mov (.c (.int .i64 0))), none, []⟩]) (.seq
  (.region [⟨(some 4), (.load none (some 4) (.t 1)), none, []⟩, ⟨(some 5), (.call (.c (.fn 71 [])) [(.t 4)]), none, []⟩, ⟨(some 6), (.call (.c (.fn 109 [])) [(.t 5)]), none, []⟩, ⟨(some 7), (.ext 0 (.t 6)), none, []⟩, ⟨(some 8), (.ext 1 (.t
  6)), none, []⟩, ⟨none, (.store none 4 (.t 2) (.t 7)), none, []⟩, ⟨(some 3), (.mov (.t 8)), none, []⟩]) .ret))⟩
theorem irOk79 : compFun Tryd.prog.underlying Tryd.prog.info? sq Tryd.f79 = some ir79 := by kernel_rfl
def ir80 : BFun := ⟨[(.tmp 4)], (.seq (.region [⟨(some 4), (.mov (.c (.int .i64 0))), none, []⟩]) (.seq (.seq (.region [⟨(some 5), (.mov (.c (.int .i64 0))), none, []⟩]) (.block 0 (.loop (.seq (.seq (.region [⟨(some 6), (.mov (.t 5)), none,
  []⟩, ⟨(some 7), (.mov (.t 0)), none, []⟩, ⟨(some 8), (.len 1 (.t 7)), none, []⟩, ⟨(some 9), (.bin .lss (.t 6) (.t 8)), none, []⟩]) (.cond (.t 9) .skip (.exit 0))) (.seq (.block 1 (.seq (.seq (.region [⟨(some 12), (.mov (.t 0)), none, []⟩,
  ⟨(some 13), (.mov (.t 5)), none, []⟩, ⟨(some 14), (.idx 1 (.t 12) (.t 13)), none, []⟩, ⟨(some 15), (.load none none (.t 14)), none, []⟩, ⟨(some 16), (.mov (.t 1)), none, []⟩, ⟨(some 17), (.bin .neq (.t 15) (.t 16)), none, []⟩]) (.cond (.t
  17) (.seq (.region [⟨(some 4), (.mov (.c (.int .i64 (-1)))), none, []⟩]) .ret) .skip)) (.region [⟨(some 18), (.mov (.t 1)), none, []⟩, ⟨(some 19), (.bin .add (.t 18) (.c (.int .i64 1))), none, []⟩, ⟨(some 1), (.mov (.t 19)), none, []⟩])))
  (.region [⟨(some 10), (.mov (.t 5)), none, []⟩, ⟨(some 11), (.bin .add (.t 10) (.c (.int .i64 1))), none, []⟩, ⟨(some 5), (.mov (.t 11)), none, []⟩])))))) (.seq (.region [⟨(some 20), (.mov (.t 1)), none, []⟩, ⟨(some 4), (.mov (.t 20)),
  none, []⟩]) .ret)))⟩
theorem irOk80 : compFun Tryd.prog.underlying Tryd.prog.info? sq Tryd.f80 = some ir80 := by kernel_rfl
def ir83 : BFun := ⟨[(.tmp 2)], (.seq (.region [⟨(some 2), (.mov (.c (.int .i64 0))), none, []⟩]) (.seq (.region [⟨(some 3), (.mov (.c (.int .i64 1))), none, []⟩]) (.seq (.block 0 (.loop (.seq (.seq (.region [⟨(some 4), (.mov (.t 0)), none,
  []⟩, ⟨(some 5), (.bin .gtr (.t 4) (.c (.int .i64 0))), none, []⟩]) (.cond (.t 5) .skip (.exit 0))) (.seq (.block 1 (.region [⟨(some 8), (.mov (.t 3)), none, []⟩, ⟨(some 9), (.bin .mul (.t 8) (.c (.int .i64 3))), none, []⟩, ⟨(some 3), (.mov
  (.t 9)), none, []⟩])) (.region [⟨(some 6), (.mov (.t 0)), none, []⟩, ⟨(some 7), (.bin .sub (.t 6) (.c (.int .i64 1))), none, []⟩, ⟨(some 0), (.mov (.t 7)), none, []⟩]))))) (.seq (.region [⟨(some 10), (.mov (.t 3)), none, []⟩, ⟨(some 2),
  (.mov (.t 10)), none, []⟩]) .ret))))⟩
theorem irOk83 : compFun Tryd.prog.underlying Tryd.prog.info? sq Tryd.f83 = some ir83 := by kernel_rfl
def ir88 : BFun := ⟨[(.cell 10 (some 4)), (.tmp 11)], (.seq (.region [⟨(some 10), (.new 62 [(.int .i64 0), (.int .i64 0), .nils, .nils]), none, []⟩, ⟨(some 11), (.mov (.c (.bool false))), none, []⟩]) (.seq (.region [⟨(some 22), (.mov (.t
  0)), none, []⟩, ⟨(some 23), (.build [(.int .i64 0), (.int .i64 0), .nils, .nils] [(0, (1, (.t 22)))]), none, []⟩, ⟨(some 12), (.new 62 [(.int .i64 0), (.int .i64 0), .nils, .nils]), none, []⟩, ⟨none, (.store none 4 (.t 12) (.t 23)), none,
  []⟩]) (.seq (.region [⟨(some 24), .mkmap, none, []⟩, ⟨(some 25), (.mov (.t 1)), none, []⟩, ⟨none, (.mset 0 (.t 24) (.t 25) (.c (.int .i64 0))), none, []⟩, ⟨(some 26), (.mov (.t 24)), none, []⟩, ⟨(some 13), (.mov (.t 26)), none, []⟩]) (.seq
  (.region [⟨(some 27), (.mov (.t 1)), none, []⟩, ⟨(some 28), (.mk 3 1 [(.int .i64 0)] [(0, (1, (.t 27)))]), none, []⟩, ⟨(some 14), (.mov (.t 28)), none, []⟩]) (.seq (.seq (.region [⟨(some 15), (.mov (.c (.int .i64 0))), none, []⟩]) (.block
  0 (.loop (.seq (.seq (.region [⟨(some 29), (.mov (.t 15)), none, []⟩, ⟨(some 30), (.mov (.t 14)), none, []⟩, ⟨(some 31), (.len 1 (.t 30)), none, []⟩, ⟨(some 32), (.bin .lss (.t 29) (.t 31)), none, []⟩]) (.cond (.t 32) .skip (.exit 0)))
  (.seq (.block 1 (.seq (.region [⟨(some 35), (.mov (.t 14)), none, []⟩, ⟨(some 36), (.mov (.t 15)), none, []⟩, ⟨(some 37), (.idx 1 (.t 35) (.t 36)), none, []⟩, ⟨(some 38), (.load none none (.t 37)), none, []⟩, ⟨(some 16), (.mov (.t 38)),
  none, []⟩]) (.seq (.region [⟨(some 17), (.mov (.c .nils)), none, []⟩]) (.seq (.seq (.region [⟨(some 18), (.mov (.c (.int .i64 0))), none, []⟩]) (.block 2 (.loop (.seq (.seq (.region [⟨(some 39), (.mov (.t 18)), none, []⟩, ⟨(some 40), (.mov
  (.t 0)), none, []⟩, ⟨(some 41), (.call (.c (.fn 60 [])) [(.t 40)]), none, []⟩, ⟨(some 42), (.bin .lss (.t 39) (.t 41)), none, []⟩]) (.cond (.t 42) .skip (.exit 2))) (.seq (.block 3 (.seq (.region [⟨(some 45), (.mov (.t 4)), none, []⟩,
  ⟨(some 46), (.mov (.t 16)), none, []⟩, ⟨(some 47), (.mov (.t 18)), none, []⟩, ⟨(some 48), (.call (.t 45) [(.t 46), (.t 47)]), none, []⟩, ⟨(some 19), (.mov (.t 48)), none, []⟩]) (.seq (.region [⟨(some 50), (.mov (.t 13)), none, []⟩, ⟨(some
  51), (.mov (.t 19)), none, []⟩, ⟨(some 52), (.look 0 true (.int .i64 0) (.t 50) (.t 51)), none, []⟩, ⟨(some 49), (.mov (.t 52)), none, []⟩, ⟨(some 53), (.ext 0 (.t 49)), none, []⟩, ⟨(some 54), (.ext 1 (.t 49)), none, []⟩, ⟨(some 20), (.mov
  (.t 53)), none, []⟩, ⟨(some 21), (.mov (.t 54)), none, []⟩]) (.seq (.seq (.region [⟨(some 55), (.mov (.t 21)), none, []⟩, ⟨(some 56), (.not (.t 55)), none, []⟩]) (.cond (.t 56) (.seq (.region [⟨(some 57), (.mov (.t 14)), none, []⟩, ⟨(some
  58), (.len 1 (.t 57)), none, []⟩, ⟨(some 20), (.mov (.t 58)), none, []⟩]) (.seq (.region [⟨(some 59), (.mov (.t 13)), none, []⟩, ⟨(some 60), (.mov (.t 19)), none, []⟩, ⟨(some 61), (.mov (.t 20)), none, []⟩, ⟨none, (.mset 0 (.t 59) (.t 60)
  (.t 61)), none, []⟩]) (.seq (.region [⟨(some 62), (.mov (.t 14)), none, []⟩, ⟨(some 63), (.mov (.t 19)), none, []⟩, ⟨(some 64), (.mk 3 1 [(.int .i64 0)] [(0, (1, (.t 63)))]), none, []⟩, ⟨(some 65), (.app 3 1 8 (.t 62) (.t 64)), none, []⟩,
  ⟨(some 14), (.mov (.t 65)), none, []⟩]) (.seq (.region [⟨(some 66), (.mov (.t 2)), none, []⟩, ⟨(some 67), (.bin .gtr (.t 66) (.c (.int .i64 0))), none, []⟩, ⟨(some 68), (.mov (.t 67)), none, []⟩, ⟨(some 69), (.mov (.t 14)), (some (68,
  true)), []⟩, ⟨(some 70), (.len 1 (.t 69)), (some (68, true)), []⟩, ⟨(some 71), (.mov (.t 2)), (some (68, true)), []⟩, ⟨(some 72), (.bin .gtr (.t 70) (.t 71)), (some (68, true)), []⟩, ⟨(some 73), (.pick (.t 68) (.t 72) (.c (.bool false))),
  none, []⟩]) (.cond (.t 73) (.seq (.region [⟨(some 74), (.build [(.int .i64 0), (.int .i64 0), .nils, .nils] []), none, []⟩, ⟨none, (.store none 4 (.t 10) (.t 74)), none, []⟩, ⟨(some 11), (.mov (.c (.bool false))), none, []⟩]) .ret)
  .skip))))) .skip)) (.region [⟨(some 75), (.mov (.t 17)), none, []⟩, ⟨(some 76), (.mov (.t 20)), none, []⟩, ⟨(some 77), (.mk 3 1 [(.int .i64 0)] [(0, (1, (.t 76)))]), none, []⟩, ⟨(some 78), (.app 3 1 8 (.t 75) (.t 77)), none, []⟩, ⟨(some
  17), (.mov (.t 78)), none, []⟩]))))) (.region [⟨(some 43), (.mov (.t 18)), none, []⟩, ⟨(some 44), (.bin .add (.t 43) (.c (.int .i64 1))), none, []⟩, ⟨(some 18), (.mov (.t 44)), none, []⟩])))))) (.seq (.region [⟨(some 79), (.lea 2 (.t 12)),
  none, []⟩, ⟨(some 80), (.load (some 62) none (.t 79)), none, []⟩, ⟨(some 81), (.mov (.t 3)), none, []⟩, ⟨(some 82), (.mov (.t 16)), none, []⟩, ⟨(some 83), (.call (.t 81) [(.t 82)]), none, [62]⟩, ⟨(some 84), (.mk 4 1 [(.bool false)] [(0,
  (1, (.t 83)))]), none, []⟩, ⟨(some 85), (.app 4 1 1 (.t 80) (.t 84)), none, []⟩, ⟨(some 86), (.lea 2 (.t 12)), none, []⟩, ⟨none, (.store none 1 (.t 86) (.t 85)), none, []⟩]) (.region [⟨(some 87), (.lea 3 (.t 12)), none, []⟩, ⟨(some 88),
  (.load none none (.t 87)), none, []⟩, ⟨(some 89), (.mov (.t 17)), none, []⟩, ⟨(some 90), (.mk 65 1 [.nils] [(0, (1, (.t 89)))]), none, []⟩, ⟨(some 91), (.app 65 1 24 (.t 88) (.t 90)), none, []⟩, ⟨(some 92), (.lea 3 (.t 12)), none, []⟩,
  ⟨none, (.store none 1 (.t 92) (.t 91)), none, []⟩])))))) (.region [⟨(some 33), (.mov (.t 15)), none, []⟩, ⟨(some 34), (.bin .add (.t 33) (.c (.int .i64 1))), none, []⟩, ⟨(some 15), (.mov (.t 34)), none, []⟩])))))) (.seq (.region [⟨(some
  93), (.load none (some 4) (.t 12)), none, []⟩, ⟨none, (.store none 4 (.t 10) (.t 93)), none, []⟩, ⟨(some 11), (.mov (.c (.bool true))), none, []⟩]) .ret))))))⟩
theorem irOk88 : compFun Tryd.prog.underlying Tryd.prog.info? sq Tryd.f88 = some ir88 := by kernel_rfl
def ir91 : BFun := ⟨[(.tmp 2)], (.seq (.region [⟨(some 2), (.mov (.c (.int .i64 0))), none, []⟩]) (.seq (.region [⟨(some 3), (.mov (.c (.int .i64 1))), none, []⟩]) (.seq (.block 0 (.loop (.seq (.seq (.region [⟨(some 4), (.mov (.t 0)), none,
  []⟩, ⟨(some 5), (.bin .gtr (.t 4) (.c (.int .i64 0))), none, []⟩]) (.cond (.t 5) .skip (.exit 0))) (.seq (.block 1 (.region [⟨(some 8), (.mov (.t 3)), none, []⟩, ⟨(some 9), (.bin .mul (.c (.int .i64 3)) (.t 8)), none, []⟩, ⟨(some 3), (.mov
  (.t 9)), none, []⟩])) (.region [⟨(some 6), (.mov (.t 0)), none, []⟩, ⟨(some 7), (.bin .sub (.t 6) (.c (.int .i64 1))), none, []⟩, ⟨(some 0), (.mov (.t 7)), none, []⟩]))))) (.seq (.region [⟨(some 10), (.mov (.t 3)), none, []⟩, ⟨(some 2),
  (.mov (.t 10)), none, []⟩]) .ret))))⟩
theorem irOk91 : compFun Tryd.prog.underlying Tryd.prog.info? sq Tryd.f91 = some ir91 := by kernel_rfl
def ir92 : BFun := ⟨[(.cell 2 (some 4))], (.seq (.region [⟨(some 2), (.new 29 [(.int .i64 0), (.int .i64 0), .nils, .nils]), none, []⟩]) (.seq (.region [⟨(some 20), (.mov (.t 0)), none, []⟩, ⟨(some 21), (.nilck (.t 20)), none, []⟩, ⟨(some
  22), (.lea 2 (.t 21)), none, []⟩, ⟨(some 23), (.load none none (.t 22)), none, []⟩, ⟨(some 24), (.len 1 (.t 23)), none, []⟩, ⟨(some 3), (.mov (.t 24)), none, []⟩]) (.seq (.region [⟨(some 25), (.mov (.t 0)), none, []⟩, ⟨(some 26), (.nilck
  (.t 25)), none, []⟩, ⟨(some 27), (.lea 0 (.t 26)), none, []⟩, ⟨(some 28), (.load none none (.t 27)), none, []⟩, ⟨(some 29), (.conv .u64 (.t 28)), none, []⟩, ⟨(some 30), (.bin .shl (.c (.int .i64 1)) (.t 29)), none, []⟩, ⟨(some 4), (.mov
  (.t 30)), none, []⟩]) (.seq (.region [⟨(some 31), (.mov (.t 3)), none, []⟩, ⟨(some 32), (.mov (.t 4)), none, []⟩, ⟨(some 33), (.bin .mul (.t 31) (.t 32)), none, []⟩, ⟨(some 34), (.mksl 2 8 [(.int .i64 0)] (.t 33) (.t 33)), none, []⟩,
  ⟨(some 5), (.mov (.t 34)), none, []⟩]) (.seq (.seq (.region [⟨(some 6), (.mov (.c (.int .i64 0))), none, []⟩]) (.block 0 (.loop (.seq (.seq (.region [⟨(some 35), (.mov (.t 6)), none, []⟩, ⟨(some 36), (.mov (.t 5)), none, []⟩, ⟨(some 37),
  (.len 1 (.t 36)), none, []⟩, ⟨(some 38), (.bin .lss (.t 35) (.t 37)), none, []⟩]) (.cond (.t 38) .skip (.exit 0))) (.seq (.block 1 (.region [⟨(some 41), (.mov (.t 5)), none, []⟩, ⟨(some 42), (.mov (.t 6)), none, []⟩, ⟨(some 43), (.idx 1
  (.t 41) (.t 42)), none, []⟩, ⟨none, (.store none 1 (.t 43) (.c (.int .i64 (-1)))), none, []⟩])) (.region [⟨(some 39), (.mov (.t 6)), none, []⟩, ⟨(some 40), (.bin .add (.t 39) (.c (.int .i64 1))), none, []⟩, ⟨(some 6), (.mov (.t 40)), none,
  []⟩])))))) (.seq (.region [⟨(some 44), (.mov (.t 0)), none, []⟩, ⟨(some 45), (.nilck (.t 44)), none, []⟩, ⟨(some 46), (.lea 1 (.t 45)), none, []⟩, ⟨(some 47), (.load none none (.t 46)), none, []⟩, ⟨(some 48), (.mov (.t 4)), none, []⟩,
  ⟨(some 49), (.bin .mul (.t 47) (.t 48)), none, []⟩, ⟨(some 50), (.mk 2 1 [(.int .i64 0)] [(0, (1, (.t 49)))]), none, []⟩, ⟨(some 7), (.mov (.t 50)), none, []⟩]) (.seq (.region [⟨(some 51), (.mov (.t 5)), none, []⟩, ⟨(some 52), (.mov (.t
  0)), none, []⟩, ⟨(some 53), (.nilck (.t 52)), none, []⟩, ⟨(some 54), (.lea 1 (.t 53)), none, []⟩, ⟨(some 55), (.load none none (.t 54)), none, []⟩, ⟨(some 56), (.mov (.t 4)), none, []⟩, ⟨(some 57), (.bin .mul (.t 55) (.t 56)), none, []⟩,
  ⟨(some 58), (.idx 1 (.t 51) (.t 57)), none, []⟩, ⟨none, (.store none 1 (.t 58) (.c (.int .i64 0))), none, []⟩]) (.seq (.region [⟨(some 59), (.mov (.t 0)), none, []⟩, ⟨(some 60), (.nilck (.t 59)), none, []⟩, ⟨(some 61), (.lea 0 (.t 60)),
  none, []⟩, ⟨(some 62), (.load none none (.t 61)), none, []⟩, ⟨(some 63), (.build [(.int .i64 0), (.int .i64 0), .nils, .nils] [(0, (1, (.t 62)))]), none, []⟩, ⟨(some 8), (.new 29 [(.int .i64 0), (.int .i64 0), .nils, .nils]), none, []⟩,
  ⟨none, (.store none 4 (.t 8) (.t 63)), none, []⟩]) (.seq (.seq (.region [⟨(some 9), (.mov (.c (.int .i64 0))), none, []⟩]) (.block 2 (.loop (.seq (.seq (.region [⟨(some 64), (.mov (.t 9)), none, []⟩, ⟨(some 65), (.mov (.t 7)), none, []⟩,
  ⟨(some 66), (.len 1 (.t 65)), none, []⟩, ⟨(some 67), (.bin .lss (.t 64) (.t 66)), none, []⟩]) (.cond (.t 67) .skip (.exit 2))) (.seq (.block 3 (.seq (.region [⟨(some 70), (.mov (.t 7)), none, []⟩, ⟨(some 71), (.mov (.t 9)), none, []⟩,
  ⟨(some 72), (.idx 1 (.t 70) (.t 71)), none, []⟩, ⟨(some 73), (.load none none (.t 72)), none, []⟩, ⟨(some 74), (.mov (.t 4)), none, []⟩, ⟨(some 75), (.bin .quo (.t 73) (.t 74)), none, []⟩, ⟨(some 10), (.mov (.t 75)), none, []⟩]) (.seq
  (.region [⟨(some 76), (.mk 2 0 [] []), none, []⟩, ⟨(some 11), (.mov (.t 76)), none, []⟩]) (.seq (.seq (.region [⟨(some 12), (.mov (.c (.int .i64 0))), none, []⟩]) (.block 4 (.loop (.seq (.seq (.region [⟨(some 77), (.mov (.t 12)), none,
  []⟩, ⟨(some 78), (.mov (.t 0)), none, []⟩, ⟨(some 79), (.nilck (.t 78)), none, []⟩, ⟨(some 80), (.lea 0 (.t 79)), none, []⟩, ⟨(some 81), (.load none none (.t 80)), none, []⟩, ⟨(some 82), (.call (.c (.fn 74 [])) [(.t 81)]), none, []⟩,
  ⟨(some 83), (.bin .lss (.t 77) (.t 82)), none, []⟩]) (.cond (.t 83) .skip (.exit 4))) (.seq (.block 5 (.seq (.region [⟨(some 86), (.mov (.t 0)), none, []⟩, ⟨(some 87), (.nilck (.t 86)), none, []⟩, ⟨(some 88), (.lea 0 (.t 87)), none, []⟩,
  ⟨(some 89), (.load none none (.t 88)), none, []⟩, ⟨(some 90), (.mov (.t 7)), none, []⟩, ⟨(some 91), (.mov (.t 9)), none, []⟩, ⟨(some 92), (.idx 1 (.t 90) (.t 91)), none, []⟩, ⟨(some 93), (.load none none (.t 92)), none, []⟩, ⟨(some 94),
  (.mov (.t 4)), none, []⟩, ⟨(some 95), (.bin .rem (.t 93) (.t 94)), none, []⟩, ⟨(some 96), (.mov (.t 12)), none, []⟩, ⟨(some 97), (.call (.c (.fn 115 [])) [(.t 89), (.t 95), (.t 96)]), none, []⟩, ⟨(some 13), (.mov (.t 97)), none, []⟩])
  (.seq (.seq (.region [⟨(some 98), (.mov (.t 13)), none, []⟩, ⟨(some 99), (.bin .lss (.t 98) (.c (.int .i64 0))), none, []⟩]) (.cond (.t 99) (.seq (.region [⟨(some 100), (.mov (.t 11)), none, []⟩, ⟨(some 101), (.mk 2 1 [(.int .i64 0)] [(0,
  (1, (.c (.int .i64 (-1)))))]), none, []⟩, ⟨(some 102), (.app 2 1 8 (.t 100) (.t 101)), none, []⟩, ⟨(some 11), (.mov (.t 102)), none, []⟩]) (.exit 5)) .skip)) (.seq (.region [⟨(some 103), (.mov (.t 0)), none, []⟩, ⟨(some 104), (.nilck (.t
  103)), none, []⟩, ⟨(some 105), (.lea 3 (.t 104)), none, []⟩, ⟨(some 106), (.load none none (.t 105)), none, []⟩, ⟨(some 107), (.mov (.t 10)), none, []⟩, ⟨(some 108), (.idx 1 (.t 106) (.t 107)), none, []⟩, ⟨(some 109), (.load none none (.t
  108)), none, []⟩, ⟨(some 110), (.mov (.t 12)), none, []⟩, ⟨(some 111), (.idx 1 (.t 109) (.t 110)), none, []⟩, ⟨(some 112), (.load none none (.t 111)), none, []⟩, ⟨(some 113), (.mov (.t 4)), none, []⟩, ⟨(some 114), (.bin .mul (.t 112) (.t
  113)), none, []⟩, ⟨(some 115), (.mov (.t 13)), none, []⟩, ⟨(some 116), (.bin .add (.t 114) (.t 115)), none, []⟩, ⟨(some 14), (.mov (.t 116)), none, []⟩]) (.seq (.seq (.region [⟨(some 117), (.mov (.t 5)), none, []⟩, ⟨(some 118), (.mov (.t
  14)), none, []⟩, ⟨(some 119), (.idx 1 (.t 117) (.t 118)), none, []⟩, ⟨(some 120), (.load none none (.t 119)), none, []⟩, ⟨(some 121), (.bin .lss (.t 120) (.c (.int .i64 0))), none, []⟩]) (.cond (.t 121) (.seq (.region [⟨(some 122), (.mov
  (.t 5)), none, []⟩, ⟨(some 123), (.mov (.t 14)), none, []⟩, ⟨(some 124), (.mov (.t 7)), none, []⟩, ⟨(some 125), (.len 1 (.t 124)), none, []⟩, ⟨(some 126), (.idx 1 (.t 122) (.t 123)), none, []⟩, ⟨none, (.store none 1 (.t 126) (.t 125)),
  none, []⟩]) (.region [⟨(some 127), (.mov (.t 7)), none, []⟩, ⟨(some 128), (.mov (.t 14)), none, []⟩, ⟨(some 129), (.mk 2 1 [(.int .i64 0)] [(0, (1, (.t 128)))]), none, []⟩, ⟨(some 130), (.app 2 1 8 (.t 127) (.t 129)), none, []⟩, ⟨(some 7),
  (.mov (.t 130)), none, []⟩])) .skip)) (.region [⟨(some 131), (.mov (.t 11)), none, []⟩, ⟨(some 132), (.mov (.t 5)), none, []⟩, ⟨(some 133), (.mov (.t 14)), none, []⟩, ⟨(some 134), (.idx 1 (.t 132) (.t 133)), none, []⟩, ⟨(some 135), (.load
  none none (.t 134)), none, []⟩, ⟨(some 136), (.mk 2 1 [(.int .i64 0)] [(0, (1, (.t 135)))]), none, []⟩, ⟨(some 137), (.app 2 1 8 (.t 131) (.t 136)), none, []⟩, ⟨(some 11), (.mov (.t 137)), none, []⟩])))))) (.region [⟨(some 84), (.mov (.t
  12)), none, []⟩, ⟨(some 85), (.bin .add (.t 84) (.c (.int .i64 1))), none, []⟩, ⟨(some 12), (.mov (.t 85)), none, []⟩])))))) (.seq (.region [⟨(some 138), (.lea 2 (.t 8)), none, []⟩, ⟨(some 139), (.load none none (.t 138)), none, []⟩,
  ⟨(some 140), (.mov (.t 0)), none, []⟩, ⟨(some 141), (.nilck (.t 140)), none, []⟩, ⟨(some 142), (.lea 2 (.t 141)), none, []⟩, ⟨(some 143), (.load none none (.t 142)), none, []⟩, ⟨(some 144), (.mov (.t 10)), none, []⟩, ⟨(some 145), (.idx 1
  (.t 143) (.t 144)), none, []⟩, ⟨(some 146), (.load none none (.t 145)), none, []⟩, ⟨(some 147), (.mk 4 1 [(.bool false)] [(0, (1, (.t 146)))]), none, []⟩, ⟨(some 148), (.app 4 1 1 (.t 139) (.t 147)), none, []⟩, ⟨(some 149), (.lea 2 (.t
  8)), none, []⟩, ⟨none, (.store none 1 (.t 149) (.t 148)), none, []⟩]) (.region [⟨(some 150), (.lea 3 (.t 8)), none, []⟩, ⟨(some 151), (.load none none (.t 150)), none, []⟩, ⟨(some 152), (.mov (.t 11)), none, []⟩, ⟨(some 153), (.mk 37 1
  [.nils] [(0, (1, (.t 152)))]), none, []⟩, ⟨(some 154), (.app 37 1 24 (.t 151) (.t 153)), none, []⟩, ⟨(some 155), (.lea 3 (.t 8)), none, []⟩, ⟨none, (.store none 1 (.t 155) (.t 154)), none, []⟩])))))) (.region [⟨(some 68), (.mov (.t 9)),
  none, []⟩, ⟨(some 69), (.bin .add (.t 68) (.c (.int .i64 1))), none, []⟩, ⟨(some 9), (.mov (.t 69)), none, []⟩])))))) (.seq (.region [⟨(some 156), (.mov (.t 7)), none, []⟩, ⟨(some 157), (.len 1 (.t 156)), none, []⟩, ⟨(some 15), (.mov (.t
  157)), none, []⟩]) (.seq (.seq (.region [⟨(some 16), (.mov (.c (.int .i64 0))), none, []⟩]) (.block 6 (.loop (.seq (.seq (.region [⟨(some 158), (.mov (.t 16)), none, []⟩, ⟨(some 159), (.lea 3 (.t 8)), none, []⟩, ⟨(some 160), (.load none
  none (.t 159)), none, []⟩, ⟨(some 161), (.len 1 (.t 160)), none, []⟩, ⟨(some 162), (.bin .lss (.t 158) (.t 161)), none, []⟩]) (.cond (.t 162) .skip (.exit 6))) (.seq (.block 7 (.seq (.region [⟨(some 17), (.mov (.c (.int .i64 0))), none,
  []⟩]) (.block 8 (.loop (.seq (.seq (.region [⟨(some 165), (.mov (.t 17)), none, []⟩, ⟨(some 166), (.lea 3 (.t 8)), none, []⟩, ⟨(some 167), (.load none none (.t 166)), none, []⟩, ⟨(some 168), (.mov (.t 16)), none, []⟩, ⟨(some 169), (.idx 1
  (.t 167) (.t 168)), none, []⟩, ⟨(some 170), (.load none none (.t 169)), none, []⟩, ⟨(some 171), (.len 1 (.t 170)), none, []⟩, ⟨(some 172), (.bin .lss (.t 165) (.t 171)), none, []⟩]) (.cond (.t 172) .skip (.exit 8))) (.seq (.block 9 (.seq
  (.region [⟨(some 175), (.lea 3 (.t 8)), none, []⟩, ⟨(some 176), (.load none none (.t 175)), none, []⟩, ⟨(some 177), (.mov (.t 16)), none, []⟩, ⟨(some 178), (.idx 1 (.t 176) (.t 177)), none, []⟩, ⟨(some 179), (.load none none (.t 178)),
  none, []⟩, ⟨(some 180), (.mov (.t 17)), none, []⟩, ⟨(some 181), (.idx 1 (.t 179) (.t 180)), none, []⟩, ⟨(some 182), (.load none none (.t 181)), none, []⟩, ⟨(some 183), (.bin .lss (.t 182) (.c (.int .i64 0))), none, []⟩]) (.cond (.t 183)
  (.region [⟨(some 184), (.lea 3 (.t 8)), none, []⟩, ⟨(some 185), (.load none none (.t 184)), none, []⟩, ⟨(some 186), (.mov (.t 16)), none, []⟩, ⟨(some 187), (.idx 1 (.t 185) (.t 186)), none, []⟩, ⟨(some 188), (.load none none (.t 187)),
  none, []⟩, ⟨(some 189), (.mov (.t 17)), none, []⟩, ⟨(some 190), (.mov (.t 15)), none, []⟩, ⟨(some 191), (.idx 1 (.t 188) (.t 189)), none, []⟩, ⟨none, (.store none 1 (.t 191) (.t 190)), none, []⟩]) .skip))) (.region [⟨(some 173), (.mov (.t
  17)), none, []⟩, ⟨(some 174), (.bin .add (.t 173) (.c (.int .i64 1))), none, []⟩, ⟨(some 17), (.mov (.t 174)), none, []⟩]))))))) (.region [⟨(some 163), (.mov (.t 16)), none, []⟩, ⟨(some 164), (.bin .add (.t 163) (.c (.int .i64 1))), none,
  []⟩, ⟨(some 16), (.mov (.t 164)), none, []⟩])))))) (.seq (.region [⟨(some 192), (.mk 2 0 [] []), none, []⟩, ⟨(some 18), (.mov (.t 192)), none, []⟩]) (.seq (.seq (.region [⟨(some 19), (.mov (.c (.int .i64 0))), none, []⟩]) (.block 10 (.loop
  (.seq (.seq (.region [⟨(some 193), (.mov (.t 19)), none, []⟩, ⟨(some 194), (.mov (.t 0)), none, []⟩, ⟨(some 195), (.nilck (.t 194)), none, []⟩, ⟨(some 196), (.lea 0 (.t 195)), none, []⟩, ⟨(some 197), (.load none none (.t 196)), none, []⟩,
  ⟨(some 198), (.call (.c (.fn 74 [])) [(.t 197)]), none, []⟩, ⟨(some 199), (.bin .lss (.t 193) (.t 198)), none, []⟩]) (.cond (.t 199) .skip (.exit 10))) (.seq (.block 11 (.region [⟨(some 202), (.mov (.t 18)), none, []⟩, ⟨(some 203), (.mov
  (.t 15)), none, []⟩, ⟨(some 204), (.mk 2 1 [(.int .i64 0)] [(0, (1, (.t 203)))]), none, []⟩, ⟨(some 205), (.app 2 1 8 (.t 202) (.t 204)), none, []⟩, ⟨(some 18), (.mov (.t 205)), none, []⟩])) (.region [⟨(some 200), (.mov (.t 19)), none,
  []⟩, ⟨(some 201), (.bin .add (.t 200) (.c (.int .i64 1))), none, []⟩, ⟨(some 19), (.mov (.t 201)), none, []⟩])))))) (.seq (.region [⟨(some 206), (.lea 2 (.t 8)), none, []⟩, ⟨(some 207), (.load none none (.t 206)), none, []⟩, ⟨(some 208),
  (.mk 4 1 [(.bool false)] [(0, (1, (.c (.bool false))))]), none, []⟩, ⟨(some 209), (.app 4 1 1 (.t 207) (.t 208)), none, []⟩, ⟨(some 210), (.lea 2 (.t 8)), none, []⟩, ⟨none, (.store none 1 (.t 210) (.t 209)), none, []⟩]) (.seq (.region
  [⟨(some 211), (.lea 3 (.t 8)), none, []⟩, ⟨(some 212), (.load none none (.t 211)), none, []⟩, ⟨(some 213), (.mov (.t 18)), none, []⟩, ⟨(some 214), (.mk 37 1 [.nils] [(0, (1, (.t 213)))]), none, []⟩, ⟨(some 215), (.app 37 1 24 (.t 212) (.t
  214)), none, []⟩, ⟨(some 216), (.lea 3 (.t 8)), none, []⟩, ⟨none, (.store none 1 (.t 216) (.t 215)), none, []⟩]) (.seq (.region [⟨(some 217), (.load none (some 4) (.t 8)), none, []⟩, ⟨none, (.store none 4 (.t 2) (.t 217)), none, []⟩])
  .ret))))))))))))))))⟩
theorem irOk92 : compFun Tryd.prog.underlying Tryd.prog.info? sq Tryd.f92 = some ir92 := by kernel_rfl
def ir93 : BFun := ⟨[(.tmp 4), (.tmp 5)], (.seq (.region [⟨(some 4), (.mov (.c .nils)), none, []⟩, ⟨(some 5), (.mov (.c (.int .i64 0))), none, []⟩]) (.seq (.region [⟨(some 11), (.mov (.t 1)), none, []⟩, ⟨(some 12), (.len 1 (.t 11)), none,
  []⟩, ⟨(some 6), (.mov (.t 12)), none, []⟩]) (.seq (.region [⟨(some 13), (.mov (.t 6)), none, []⟩, ⟨(some 14), (.mksl 2 8 [(.int .i64 0)] (.t 13) (.t 13)), none, []⟩, ⟨(some 7), (.mov (.t 14)), none, []⟩]) (.seq (.region [⟨(some 15), (.mk 2
  0 [] []), none, []⟩, ⟨(some 8), (.mov (.t 15)), none, []⟩]) (.seq (.seq (.region [⟨(some 9), (.mov (.c (.int .i64 0))), none, []⟩]) (.block 0 (.loop (.seq (.seq (.region [⟨(some 16), (.mov (.t 9)), none, []⟩, ⟨(some 17), (.mov (.t 6)),
  none, []⟩, ⟨(some 18), (.bin .lss (.t 16) (.t 17)), none, []⟩]) (.cond (.t 18) .skip (.exit 0))) (.seq (.block 1 (.seq (.region [⟨(some 21), (.mov (.t 7)), none, []⟩, ⟨(some 22), (.mov (.t 9)), none, []⟩, ⟨(some 23), (.idx 1 (.t 21) (.t
  22)), none, []⟩, ⟨none, (.store none 1 (.t 23) (.c (.int .i64 (-1)))), none, []⟩]) (.seq (.seq (.region [⟨(some 10), (.mov (.c (.int .i64 0))), none, []⟩]) (.block 2 (.loop (.seq (.seq (.region [⟨(some 24), (.mov (.t 10)), none, []⟩,
  ⟨(some 25), (.mov (.t 8)), none, []⟩, ⟨(some 26), (.len 1 (.t 25)), none, []⟩, ⟨(some 27), (.bin .lss (.t 24) (.t 26)), none, []⟩, ⟨(some 28), (.mov (.t 27)), none, []⟩, ⟨(some 29), (.mov (.t 7)), (some (28, true)), []⟩, ⟨(some 30), (.mov
  (.t 9)), (some (28, true)), []⟩, ⟨(some 31), (.idx 1 (.t 29) (.t 30)), (some (28, true)), []⟩, ⟨(some 32), (.load none none (.t 31)), (some (28, true)), []⟩, ⟨(some 33), (.bin .lss (.t 32) (.c (.int .i64 0))), (some (28, true)), []⟩,
  ⟨(some 34), (.pick (.t 28) (.t 33) (.c (.bool false))), none, []⟩]) (.cond (.t 34) .skip (.exit 2))) (.seq (.block 3 (.seq (.region [⟨(some 37), (.mov (.t 1)), none, []⟩, ⟨(some 38), (.mov (.t 8)), none, []⟩, ⟨(some 39), (.mov (.t 10)),
  none, []⟩, ⟨(some 40), (.idx 1 (.t 38) (.t 39)), none, []⟩, ⟨(some 41), (.load none none (.t 40)), none, []⟩, ⟨(some 42), (.idx 1 (.t 37) (.t 41)), none, []⟩, ⟨(some 43), (.load none none (.t 42)), none, []⟩, ⟨(some 44), (.mov (.t 1)),
  none, []⟩, ⟨(some 45), (.mov (.t 9)), none, []⟩, ⟨(some 46), (.idx 1 (.t 44) (.t 45)), none, []⟩, ⟨(some 47), (.load none none (.t 46)), none, []⟩, ⟨(some 48), (.bin .eql (.t 43) (.t 47)), none, []⟩, ⟨(some 49), (.mov (.t 48)), none, []⟩,
  ⟨(some 50), (.mov (.t 0)), (some (49, true)), []⟩, ⟨(some 51), (.mov (.t 1)), (some (49, true)), []⟩, ⟨(some 52), (.mov (.t 8)), (some (49, true)), []⟩, ⟨(some 53), (.mov (.t 10)), (some (49, true)), []⟩, ⟨(some 54), (.idx 1 (.t 52) (.t
  53)), (some (49, true)), []⟩, ⟨(some 55), (.load none none (.t 54)), (some (49, true)), []⟩, ⟨(some 56), (.mov (.t 9)), (some (49, true)), []⟩, ⟨(some 57), (.call (.c (.fn 116 [])) [(.t 50), (.t 51), (.t 55), (.t 56)]), (some (49, true)),
  []⟩, ⟨(some 58), (.pick (.t 49) (.t 57) (.c (.bool false))), none, []⟩]) (.cond (.t 58) (.region [⟨(some 59), (.mov (.t 7)), none, []⟩, ⟨(some 60), (.mov (.t 9)), none, []⟩, ⟨(some 61), (.mov (.t 10)), none, []⟩, ⟨(some 62), (.idx 1 (.t
  59) (.t 60)), none, []⟩, ⟨none, (.store none 1 (.t 62) (.t 61)), none, []⟩]) .skip))) (.region [⟨(some 35), (.mov (.t 10)), none, []⟩, ⟨(some 36), (.bin .add (.t 35) (.c (.int .i64 1))), none, []⟩, ⟨(some 10), (.mov (.t 36)), none,
  []⟩])))))) (.seq (.region [⟨(some 63), (.mov (.t 7)), none, []⟩, ⟨(some 64), (.mov (.t 9)), none, []⟩, ⟨(some 65), (.idx 1 (.t 63) (.t 64)), none, []⟩, ⟨(some 66), (.load none none (.t 65)), none, []⟩, ⟨(some 67), (.bin .lss (.t 66) (.c
  (.int .i64 0))), none, []⟩]) (.cond (.t 67) (.seq (.region [⟨(some 68), (.mov (.t 7)), none, []⟩, ⟨(some 69), (.mov (.t 9)), none, []⟩, ⟨(some 70), (.mov (.t 8)), none, []⟩, ⟨(some 71), (.len 1 (.t 70)), none, []⟩, ⟨(some 72), (.idx 1 (.t
  68) (.t 69)), none, []⟩, ⟨none, (.store none 1 (.t 72) (.t 71)), none, []⟩]) (.region [⟨(some 73), (.mov (.t 8)), none, []⟩, ⟨(some 74), (.mov (.t 9)), none, []⟩, ⟨(some 75), (.mk 2 1 [(.int .i64 0)] [(0, (1, (.t 74)))]), none, []⟩, ⟨(some
  76), (.app 2 1 8 (.t 73) (.t 75)), none, []⟩, ⟨(some 8), (.mov (.t 76)), none, []⟩])) .skip))))) (.region [⟨(some 19), (.mov (.t 9)), none, []⟩, ⟨(some 20), (.bin .add (.t 19) (.c (.int .i64 1))), none, []⟩, ⟨(some 9), (.mov (.t 20)),
  none, []⟩])))))) (.seq (.region [⟨(some 77), (.mov (.t 7)), none, []⟩, ⟨(some 78), (.mov (.t 8)), none, []⟩, ⟨(some 79), (.len 1 (.t 78)), none, []⟩, ⟨(some 4), (.mov (.t 77)), none, []⟩, ⟨(some 5), (.mov (.t 79)), none, []⟩]) .ret))))))⟩
theorem irOk93 : compFun Tryd.prog.underlying Tryd.prog.info? sq Tryd.f93 = some ir93 := by kernel_rfl
def ir99 : BFun := ⟨[(.tmp 4)], (.seq (.region [⟨(some 4), (.mov (.c .nils)), none, []⟩]) (.seq (.region [⟨(some 5), (.mov (.c .nils)), none, []⟩]) (.seq (.block 0 (.loop (.seq (.seq (.region [⟨(some 6), (.mov (.t 0)), none, []⟩, ⟨(some 7),
  (.bin .gtr (.t 6) (.c (.int .i64 0))), none, []⟩]) (.cond (.t 7) .skip (.exit 0))) (.seq (.block 1 (.seq (.region [⟨(some 10), (.mov (.t 5)), none, []⟩, ⟨(some 11), (.mov (.t 1)), none, []⟩, ⟨(some 12), (.bin .rem (.t 11) (.c (.int .i64
  3))), none, []⟩, ⟨(some 13), (.mk 3 1 [(.int .i64 0)] [(0, (1, (.t 12)))]), none, []⟩, ⟨(some 14), (.app 3 1 8 (.t 10) (.t 13)), none, []⟩, ⟨(some 5), (.mov (.t 14)), none, []⟩]) (.region [⟨(some 15), (.mov (.t 1)), none, []⟩, ⟨(some 16),
  (.bin .quo (.t 15) (.c (.int .i64 3))), none, []⟩, ⟨(some 1), (.mov (.t 16)), none, []⟩]))) (.region [⟨(some 8), (.mov (.t 0)), none, []⟩, ⟨(some 9), (.bin .sub (.t 8) (.c (.int .i64 1))), none, []⟩, ⟨(some 0), (.mov (.t 9)), none,
  []⟩]))))) (.seq (.region [⟨(some 17), (.mov (.t 5)), none, []⟩, ⟨(some 4), (.mov (.t 17)), none, []⟩]) .ret))))⟩
theorem irOk99 : compFun Tryd.prog.underlying Tryd.prog.info? sq Tryd.f99 = some ir99 := by kernel_rfl
def ir100 : BFun := ⟨[(.cell 10 (some 4)), (.tmp 11)], (.seq (.region [⟨(some 6), (.box 114 (.t 1)), none, []⟩, ⟨(some 10), (.new 62 [(.int .i64 0), (.int .i64 0), .nils, .nils]), none, []⟩, ⟨(some 11), (.mov (.c (.bool false))), none, []⟩])
  (.seq (.region [⟨(some 22), (.mov (.t 0)), none, []⟩, ⟨(some 23), (.build [(.int .i64 0), (.int .i64 0), .nils, .nils] [(0, (1, (.t 22)))]), none, []⟩, ⟨(some 12), (.new 62 [(.int .i64 0), (.int .i64 0), .nils, .nils]), none, []⟩, ⟨none,
  (.store none 4 (.t 12) (.t 23)), none, []⟩]) (.seq (.region [⟨(some 24), .mkmap, none, []⟩, ⟨(some 25), (.load none (some 2) (.t 6)), none, []⟩, ⟨none, (.mset 5 (.t 24) (.t 25) (.c (.int .i64 0))), none, []⟩, ⟨(some 26), (.mov (.t 24)),
  none, []⟩, ⟨(some 13), (.mov (.t 26)), none, []⟩]) (.seq (.region [⟨(some 27), (.load none (some 2) (.t 6)), none, []⟩, ⟨(some 28), (.mk 114 1 [(.int .i64 0), (.int .i64 0)] [(0, (2, (.t 27)))]), none, []⟩, ⟨(some 14), (.mov (.t 28)),
  none, []⟩]) (.seq (.seq (.region [⟨(some 15), (.mov (.c (.int .i64 0))), none, []⟩]) (.block 0 (.loop (.seq (.seq (.region [⟨(some 29), (.mov (.t 15)), none, []⟩, ⟨(some 30), (.mov (.t 14)), none, []⟩, ⟨(some 31), (.len 1 (.t 30)), none,
  []⟩, ⟨(some 32), (.bin .lss (.t 29) (.t 31)), none, []⟩]) (.cond (.t 32) .skip (.exit 0))) (.seq (.block 1 (.seq (.region [⟨(some 35), (.mov (.t 14)), none, []⟩, ⟨(some 36), (.mov (.t 15)), none, []⟩, ⟨(some 37), (.idx 2 (.t 35) (.t 36)),
  none, []⟩, ⟨(some 38), (.load none (some 2) (.t 37)), none, []⟩, ⟨(some 16), (.new 114 [(.int .i64 0), (.int .i64 0)]), none, []⟩, ⟨none, (.store none 2 (.t 16) (.t 38)), none, []⟩]) (.seq (.region [⟨(some 17), (.mov (.c .nils)), none,
  []⟩]) (.seq (.seq (.region [⟨(some 18), (.mov (.c (.int .i64 0))), none, []⟩]) (.block 2 (.loop (.seq (.seq (.region [⟨(some 39), (.mov (.t 18)), none, []⟩, ⟨(some 40), (.mov (.t 0)), none, []⟩, ⟨(some 41), (.call (.c (.fn 60 [])) [(.t
  40)]), none, []⟩, ⟨(some 42), (.bin .lss (.t 39) (.t 41)), none, []⟩]) (.cond (.t 42) .skip (.exit 2))) (.seq (.block 3 (.seq (.region [⟨(some 45), (.mov (.t 4)), none, []⟩, ⟨(some 46), (.load none (some 2) (.t 16)), none, []⟩, ⟨(some 47),
  (.mov (.t 18)), none, []⟩, ⟨(some 48), (.call (.t 45) [(.t 46), (.t 47)]), none, []⟩, ⟨(some 19), (.new 114 [(.int .i64 0), (.int .i64 0)]), none, []⟩, ⟨none, (.store none 2 (.t 19) (.t 48)), none, []⟩]) (.seq (.region [⟨(some 50), (.mov
  (.t 13)), none, []⟩, ⟨(some 51), (.load none (some 2) (.t 19)), none, []⟩, ⟨(some 52), (.look 5 true (.int .i64 0) (.t 50) (.t 51)), none, []⟩, ⟨(some 49), (.mov (.t 52)), none, []⟩, ⟨(some 53), (.ext 0 (.t 49)), none, []⟩, ⟨(some 54),
  (.ext 1 (.t 49)), none, []⟩, ⟨(some 20), (.mov (.t 53)), none, []⟩, ⟨(some 21), (.mov (.t 54)), none, []⟩]) (.seq (.seq (.region [⟨(some 55), (.mov (.t 21)), none, []⟩, ⟨(some 56), (.not (.t 55)), none, []⟩]) (.cond (.t 56) (.seq (.region
  [⟨(some 57), (.mov (.t 14)), none, []⟩, ⟨(some 58), (.len 1 (.t 57)), none, []⟩, ⟨(some 20), (.mov (.t 58)), none, []⟩]) (.seq (.region [⟨(some 59), (.mov (.t 13)), none, []⟩, ⟨(some 60), (.load none (some 2) (.t 19)), none, []⟩, ⟨(some
  61), (.mov (.t 20)), none, []⟩, ⟨none, (.mset 5 (.t 59) (.t 60) (.t 61)), none, []⟩]) (.seq (.region [⟨(some 62), (.mov (.t 14)), none, []⟩, ⟨(some 63), (.load none (some 2) (.t 19)), none, []⟩, ⟨(some 64), (.mk 114 1 [(.int .i64 0), (.int
  .i64 0)] [(0, (2, (.t 63)))]), none, []⟩, ⟨(some 65), (.app 114 2 16 (.t 62) (.t 64)), none, []⟩, ⟨(some 14), (.mov (.t 65)), none, []⟩]) (.seq (.region [⟨(some 66), (.mov (.t 2)), none, []⟩, ⟨(some 67), (.bin .gtr (.t 66) (.c (.int .i64
  0))), none, []⟩, ⟨(some 68), (.mov (.t 67)), none, []⟩, ⟨(some 69), (.mov (.t 14)), (some (68, true)), []⟩, ⟨(some 70), (.len 1 (.t 69)), (some (68, true)), []⟩, ⟨(some 71), (.mov (.t 2)), (some (68, true)), []⟩, ⟨(some 72), (.bin .gtr (.t
  70) (.t 71)), (some (68, true)), []⟩, ⟨(some 73), (.pick (.t 68) (.t 72) (.c (.bool false))), none, []⟩]) (.cond (.t 73) (.seq (.region [⟨(some 74), (.build [(.int .i64 0), (.int .i64 0), .nils, .nils] []), none, []⟩, ⟨none, (.store none 4
  (.t 10) (.t 74)), none, []⟩, ⟨(some 11), (.mov (.c (.bool false))), none, []⟩]) .ret) .skip))))) .skip)) (.region [⟨(some 75), (.mov (.t 17)), none, []⟩, ⟨(some 76), (.mov (.t 20)), none, []⟩, ⟨(some 77), (.mk 3 1 [(.int .i64 0)] [(0, (1,
  (.t 76)))]), none, []⟩, ⟨(some 78), (.app 3 1 8 (.t 75) (.t 77)), none, []⟩, ⟨(some 17), (.mov (.t 78)), none, []⟩]))))) (.region [⟨(some 43), (.mov (.t 18)), none, []⟩, ⟨(some 44), (.bin .add (.t 43) (.c (.int .i64 1))), none, []⟩, ⟨(some
  18), (.mov (.t 44)), none, []⟩])))))) (.seq (.region [⟨(some 79), (.lea 2 (.t 12)), none, []⟩, ⟨(some 80), (.load (some 62) none (.t 79)), none, []⟩, ⟨(some 81), (.mov (.t 3)), none, []⟩, ⟨(some 82), (.load none (some 2) (.t 16)), none,
  []⟩, ⟨(some 83), (.call (.t 81) [(.t 82)]), none, [62]⟩, ⟨(some 84), (.mk 4 1 [(.bool false)] [(0, (1, (.t 83)))]), none, []⟩, ⟨(some 85), (.app 4 1 1 (.t 80) (.t 84)), none, []⟩, ⟨(some 86), (.lea 2 (.t 12)), none, []⟩, ⟨none, (.store
  none 1 (.t 86) (.t 85)), none, []⟩]) (.region [⟨(some 87), (.lea 3 (.t 12)), none, []⟩, ⟨(some 88), (.load none none (.t 87)), none, []⟩, ⟨(some 89), (.mov (.t 17)), none, []⟩, ⟨(some 90), (.mk 65 1 [.nils] [(0, (1, (.t 89)))]), none, []⟩,
  ⟨(some 91), (.app 65 1 24 (.t 88) (.t 90)), none, []⟩, ⟨(some 92), (.lea 3 (.t 12)), none, []⟩, ⟨none, (.store none 1 (.t 92) (.t 91)), none, []⟩])))))) (.region [⟨(some 33), (.mov (.t 15)), none, []⟩, ⟨(some 34), (.bin .add (.t 33) (.c
  (.int .i64 1))), none, []⟩, ⟨(some 15), (.mov (.t 34)), none, []⟩])))))) (.seq (.region [⟨(some 93), (.load none (some 4) (.t 12)), none, []⟩, ⟨none, (.store none 4 (.t 10) (.t 93)), none, []⟩, ⟨(some 11), (.mov (.c (.bool true))), none,
  []⟩]) .ret))))))⟩
theorem irOk100 : compFun Tryd.prog.underlying Tryd.prog.info? sq Tryd.f100 = some ir100 := by kernel_rfl
def ir101 : BFun := ⟨[(.tmp 3)], (.seq (.region [⟨(some 2), (.box 114 (.t 0)), none, []⟩, ⟨(some 3), (.mov (.c (.bool false))), none, []⟩]) (.seq (.region [⟨(some 4), (.lea 1 (.t 2)), none, []⟩, ⟨(some 5), (.load none none (.t 4)), none,
  []⟩, ⟨(some 6), (.bin .geq (.t 5) (.c (.int .i64 0))), none, []⟩, ⟨(some 7), (.mov (.t 6)), none, []⟩, ⟨(some 8), (.lea 2 (.t 1)), (some (7, true)), []⟩, ⟨(some 9), (.load none none (.t 8)), (some (7, true)), []⟩, ⟨(some 10), (.lea 0 (.t
  2)), (some (7, true)), []⟩, ⟨(some 11), (.load none none (.t 10)), (some (7, true)), []⟩, ⟨(some 12), (.idx 1 (.t 9) (.t 11)), (some (7, true)), []⟩, ⟨(some 13), (.load none none (.t 12)), (some (7, true)), []⟩, ⟨(some 14), (.pick (.t 7)
  (.t 13) (.c (.bool false))), none, []⟩, ⟨(some 3), (.mov (.t 14)), none, []⟩]) .ret))⟩
theorem irOk101 : compFun Tryd.prog.underlying Tryd.prog.info? sq Tryd.f101 = some ir101 := by kernel_rfl
def ir102 : BFun := ⟨[(.cell 6 (some 2))], (.seq (.region [⟨(some 4), (.box 114 (.t 0)), none, []⟩, ⟨(some 6), (.new 114 [(.int .i64 0), (.int .i64 0)]), none, []⟩]) (.seq (.seq (.region [⟨(some 7), (.lea 1 (.t 4)), none, []⟩, ⟨(some 8),
  (.load none none (.t 7)), none, []⟩, ⟨(some 9), (.bin .lss (.t 8) (.c (.int .i64 0))), none, []⟩, ⟨(some 10), (.mov (.t 9)), none, []⟩, ⟨(some 11), (.lea 1 (.t 4)), (some (10, false)), []⟩, ⟨(some 12), (.load none none (.t 11)), (some (10,
  false)), []⟩, ⟨(some 13), (.load none none (.t 2)), (some (10, false)), []⟩, ⟨(some 14), (.mov (.t 1)), (some (10, false)), []⟩, ⟨(some 15), (.idx 1 (.t 13) (.t 14)), (some (10, false)), []⟩, ⟨(some 16), (.load none none (.t 15)), (some
  (10, false)), []⟩, ⟨(some 17), (.bin .andNot (.t 12) (.t 16)), (some (10, false)), []⟩, ⟨(some 18), (.bin .neq (.t 17) (.c (.int .i64 0))), (some (10, false)), []⟩, ⟨(some 19), (.pick (.t 10) (.c (.bool true)) (.t 18)), none, []⟩]) (.cond
  (.t 19) (.seq (.region [⟨(some 20), (.build [(.int .i64 0), (.int .i64 0)] [(1, (1, (.c (.int .i64 (-1)))))]), none, []⟩, ⟨none, (.store none 2 (.t 6) (.t 20)), none, []⟩]) .ret) .skip)) (.seq (.region [⟨(some 21), (.lea 3 (.t 3)), none,
  []⟩, ⟨(some 22), (.load none none (.t 21)), none, []⟩, ⟨(some 23), (.lea 0 (.t 4)), none, []⟩, ⟨(some 24), (.load none none (.t 23)), none, []⟩, ⟨(some 25), (.idx 1 (.t 22) (.t 24)), none, []⟩, ⟨(some 26), (.load none none (.t 25)), none,
  []⟩, ⟨(some 27), (.mov (.t 1)), none, []⟩, ⟨(some 28), (.idx 1 (.t 26) (.t 27)), none, []⟩, ⟨(some 29), (.load none none (.t 28)), none, []⟩, ⟨(some 30), (.load none none (.t 2)), none, []⟩, ⟨(some 31), (.mov (.t 1)), none, []⟩, ⟨(some
  32), (.idx 1 (.t 30) (.t 31)), none, []⟩, ⟨(some 33), (.load none none (.t 32)), none, []⟩, ⟨(some 34), (.build [(.int .i64 0), (.int .i64 0)] [(0, (1, (.t 29))), (1, (1, (.t 33)))]), none, []⟩, ⟨none, (.store none 2 (.t 6) (.t 34)), none,
  []⟩]) .ret)))⟩
theorem irOk102 : compFun Tryd.prog.underlying Tryd.prog.info? sq Tryd.f102 = some ir102 := by kernel_rfl
def ir103 : BFun := ⟨[(.cell 2 (some 4))], (.seq (.region [⟨(some 1), (.box 62 (.t 0)), none, []⟩, ⟨(some 2), (.new 62 [(.int .i64 0), (.int .i64 0), .nils, .nils]), none, []⟩]) (.seq (.region [⟨(some 21), (.lea 2 (.t 1)), none, []⟩, ⟨(some
  22), (.load none none (.t 21)), none, []⟩, ⟨(some 23), (.len 1 (.t 22)), none, []⟩, ⟨(some 24), (.mksl 3 8 [(.int .i64 0)] (.t 23) (.t 23)), none, []⟩, ⟨(some 3), (.new 65 [.nils]), none, []⟩, ⟨none, (.store none 1 (.t 3) (.t 24)), none,
  []⟩]) (.seq (.seq (.region [⟨(some 25), (.lea 2 (.t 1)), none, []⟩, ⟨(some 26), (.load none none (.t 25)), none, []⟩, ⟨(some 27), (.len 1 (.t 26)), none, []⟩, ⟨(some 28), (.mov (.c (.int .i64 0))), none, []⟩]) (.block 0 (.loop (.seq
  (.region [⟨(some 29), (.bin .lss (.t 28) (.t 27)), none, []⟩]) (.seq (.cond (.t 29) .skip (.exit 0)) (.seq (.block 1 (.seq (.region [⟨(some 30), (.mov (.t 28)), none, []⟩, ⟨(some 31), (.idx 1 (.t 26) (.t 28)), none, []⟩, ⟨(some 32), (.load
  none none (.t 31)), none, []⟩, ⟨(some 4), (.mov (.t 30)), none, []⟩, ⟨(some 5), (.mov (.t 32)), none, []⟩]) (.seq (.region [⟨(some 33), (.mov (.t 5)), none, []⟩]) (.cond (.t 33) (.region [⟨(some 34), (.load none none (.t 3)), none, []⟩,
  ⟨(some 35), (.mov (.t 4)), none, []⟩, ⟨(some 36), (.idx 1 (.t 34) (.t 35)), none, []⟩, ⟨none, (.store none 1 (.t 36) (.c (.int .i64 1))), none, []⟩]) .skip)))) (.region [⟨(some 37), (.bin .add (.t 28) (.c (.int .i64 1))), none, []⟩, ⟨(some
  28), (.mov (.t 37)), none, []⟩]))))))) (.seq (.seq (.region [⟨(some 6), (.mov (.c (.int .i64 0))), none, []⟩]) (.block 2 (.loop (.block 3 (.seq (.region [⟨(some 38), .mkmap, none, []⟩, ⟨(some 7), (.mov (.t 38)), none, []⟩]) (.seq (.region
  [⟨(some 39), (.load none none (.t 3)), none, []⟩, ⟨(some 40), (.len 1 (.t 39)), none, []⟩, ⟨(some 41), (.mksl 3 8 [(.int .i64 0)] (.t 40) (.t 40)), none, []⟩, ⟨(some 8), (.mov (.t 41)), none, []⟩]) (.seq (.seq (.region [⟨(some 42), (.lea 3
  (.t 1)), none, []⟩, ⟨(some 43), (.load none none (.t 42)), none, []⟩, ⟨(some 44), (.len 1 (.t 43)), none, []⟩, ⟨(some 45), (.mov (.c (.int .i64 0))), none, []⟩]) (.block 4 (.loop (.seq (.region [⟨(some 46), (.bin .lss (.t 45) (.t 44)),
  none, []⟩]) (.seq (.cond (.t 46) .skip (.exit 4)) (.seq (.block 5 (.seq (.region [⟨(some 47), (.mov (.t 45)), none, []⟩, ⟨(some 48), (.idx 1 (.t 43) (.t 45)), none, []⟩, ⟨(some 49), (.load none none (.t 48)), none, []⟩, ⟨(some 9), (.mov
  (.t 47)), none, []⟩, ⟨(some 10), (.mov (.t 49)), none, []⟩]) (.seq (.region [⟨(some 50), (.load none none (.t 3)), none, []⟩, ⟨(some 51), (.mov (.t 9)), none, []⟩, ⟨(some 52), (.idx 1 (.t 50) (.t 51)), none, []⟩, ⟨(some 53), (.load none
  none (.t 52)), none, []⟩, ⟨(some 54), (.call (.c (.fn 118 [])) [(.t 53)]), none, []⟩, ⟨(some 11), (.mov (.t 54)), none, []⟩]) (.seq (.seq (.region [⟨(some 55), (.mov (.t 10)), none, []⟩, ⟨(some 56), (.len 1 (.t 55)), none, []⟩, ⟨(some 57),
  (.mov (.c (.int .i64 0))), none, []⟩]) (.block 6 (.loop (.seq (.region [⟨(some 58), (.bin .lss (.t 57) (.t 56)), none, []⟩]) (.seq (.cond (.t 58) .skip (.exit 6)) (.seq (.block 7 (.seq (.region [⟨(some 59), (.idx 1 (.t 55) (.t 57)), none,
  []⟩, ⟨(some 60), (.load none none (.t 59)), none, []⟩, ⟨(some 13), (.mov (.t 60)), none, []⟩]) (.region [⟨(some 61), (.mov (.t 11)), none, []⟩, ⟨(some 62), (.load none none (.t 3)), none, []⟩, ⟨(some 63), (.mov (.t 13)), none, []⟩, ⟨(some
  64), (.idx 1 (.t 62) (.t 63)), none, []⟩, ⟨(some 65), (.load none none (.t 64)), none, []⟩, ⟨(some 66), (.call (.c (.fn 118 [])) [(.t 65)]), none, []⟩, ⟨(some 67), (.bin .add (.c (.str ⟨#[44]⟩)) (.t 66)), none, []⟩, ⟨(some 68), (.bin .add
  (.t 61) (.t 67)), none, []⟩, ⟨(some 11), (.mov (.t 68)), none, []⟩]))) (.region [⟨(some 69), (.bin .add (.t 57) (.c (.int .i64 1))), none, []⟩, ⟨(some 57), (.mov (.t 69)), none, []⟩]))))))) (.seq (.region [⟨(some 71), (.mov (.t 7)), none,
  []⟩, ⟨(some 72), (.mov (.t 11)), none, []⟩, ⟨(some 73), (.look 1 true (.int .i64 0) (.t 71) (.t 72)), none, []⟩, ⟨(some 70), (.mov (.t 73)), none, []⟩, ⟨(some 74), (.ext 0 (.t 70)), none, []⟩, ⟨(some 75), (.ext 1 (.t 70)), none, []⟩,
  ⟨(some 14), (.mov (.t 74)), none, []⟩, ⟨(some 15), (.mov (.t 75)), none, []⟩]) (.seq (.seq (.region [⟨(some 76), (.mov (.t 15)), none, []⟩, ⟨(some 77), (.not (.t 76)), none, []⟩]) (.cond (.t 77) (.seq (.region [⟨(some 78), (.mov (.t 7)),
  none, []⟩, ⟨(some 79), (.len 2 (.t 78)), none, []⟩, ⟨(some 14), (.mov (.t 79)), none, []⟩]) (.region [⟨(some 80), (.mov (.t 7)), none, []⟩, ⟨(some 81), (.mov (.t 11)), none, []⟩, ⟨(some 82), (.mov (.t 14)), none, []⟩, ⟨none, (.mset 1 (.t
  80) (.t 81) (.t 82)), none, []⟩])) .skip)) (.region [⟨(some 83), (.mov (.t 8)), none, []⟩, ⟨(some 84), (.mov (.t 9)), none, []⟩, ⟨(some 85), (.mov (.t 14)), none, []⟩, ⟨(some 86), (.idx 1 (.t 83) (.t 84)), none, []⟩, ⟨none, (.store none 1
  (.t 86) (.t 85)), none, []⟩]))))))) (.region [⟨(some 87), (.bin .add (.t 45) (.c (.int .i64 1))), none, []⟩, ⟨(some 45), (.mov (.t 87)), none, []⟩]))))))) (.seq (.region [⟨(some 88), (.mov (.t 8)), none, []⟩, ⟨none, (.store none 1 (.t 3)
  (.t 88)), none, []⟩]) (.seq (.seq (.region [⟨(some 89), (.mov (.t 7)), none, []⟩, ⟨(some 90), (.len 2 (.t 89)), none, []⟩, ⟨(some 91), (.mov (.t 6)), none, []⟩, ⟨(some 92), (.bin .eql (.t 90) (.t 91)), none, []⟩]) (.cond (.t 92) (.exit 2)
  .skip)) (.region [⟨(some 93), (.mov (.t 7)), none, []⟩, ⟨(some 94), (.len 2 (.t 93)), none, []⟩, ⟨(some 6), (.mov (.t 94)), none, []⟩])))))))))) (.seq (.region [⟨(some 95), (.load none none (.t 3)), none, []⟩, ⟨(some 96), (.len 1 (.t 95)),
  none, []⟩, ⟨(some 97), (.mksl 3 8 [(.int .i64 0)] (.t 96) (.t 96)), none, []⟩, ⟨(some 16), (.new 65 [.nils]), none, []⟩, ⟨none, (.store none 1 (.t 16) (.t 97)), none, []⟩]) (.seq (.seq (.region [⟨(some 98), (.load none none (.t 3)), none,
  []⟩, ⟨(some 99), (.len 1 (.t 98)), none, []⟩, ⟨(some 100), (.mov (.c (.int .i64 0))), none, []⟩]) (.block 8 (.loop (.seq (.region [⟨(some 101), (.bin .lss (.t 100) (.t 99)), none, []⟩]) (.seq (.cond (.t 101) .skip (.exit 8)) (.seq (.block
  9 (.seq (.region [⟨(some 102), (.mov (.t 100)), none, []⟩, ⟨(some 103), (.idx 1 (.t 98) (.t 100)), none, []⟩, ⟨(some 104), (.load none none (.t 103)), none, []⟩, ⟨(some 17), (.mov (.t 102)), none, []⟩, ⟨(some 18), (.mov (.t 104)), none,
  []⟩]) (.region [⟨(some 105), (.load none none (.t 16)), none, []⟩, ⟨(some 106), (.mov (.t 18)), none, []⟩, ⟨(some 107), (.mov (.t 17)), none, []⟩, ⟨(some 108), (.idx 1 (.t 105) (.t 106)), none, []⟩, ⟨none, (.store none 1 (.t 108) (.t
  107)), none, []⟩]))) (.region [⟨(some 109), (.bin .add (.t 100) (.c (.int .i64 1))), none, []⟩, ⟨(some 100), (.mov (.t 109)), none, []⟩]))))))) (.seq (.region [⟨(some 111), (.lea 0 (.t 1)), none, []⟩, ⟨(some 112), (.load none none (.t
  111)), none, []⟩, ⟨(some 113), (.load none none (.t 3)), none, []⟩, ⟨(some 114), (.lea 1 (.t 1)), none, []⟩, ⟨(some 115), (.load none none (.t 114)), none, []⟩, ⟨(some 116), (.idx 1 (.t 113) (.t 115)), none, []⟩, ⟨(some 117), (.load none
  none (.t 116)), none, []⟩, ⟨(some 118), (.mkfn 119 [(.t 1), (.t 16)]), none, []⟩, ⟨(some 119), (.mkfn 120 [(.t 3), (.t 1), (.t 16)]), none, []⟩, ⟨(some 120), (.call (.c (.fn 88 [])) [(.t 112), (.t 117), (.c (.int .i64 0)), (.t 118), (.t
  119)]), none, []⟩, ⟨(some 110), (.mov (.t 120)), none, []⟩, ⟨(some 121), (.ext 0 (.t 110)), none, []⟩, ⟨(some 122), (.ext 1 (.t 110)), none, []⟩, ⟨(some 19), (.new 62 [(.int .i64 0), (.int .i64 0), .nils, .nils]), none, []⟩, ⟨none, (.store
  none 4 (.t 19) (.t 121)), none, []⟩, ⟨(some 20), (.mov (.t 122)), none, []⟩]) (.seq (.region [⟨(some 123), (.load none (some 4) (.t 19)), none, []⟩, ⟨none, (.store none 4 (.t 2) (.t 123)), none, []⟩]) .ret))))))))⟩
theorem irOk103 : compFun Tryd.prog.underlying Tryd.prog.info? sq Tryd.f103 = some ir103 := by kernel_rfl
def ir104 : BFun := ⟨[(.tmp 2)], (.seq (.region [⟨(some 2), (.mov (.c (.bool false))), none, []⟩]) (.seq (.seq (.region [⟨(some 3), (.mov (.c (.int .i64 0))), none, []⟩]) (.block 0 (.loop (.seq (.seq (.region [⟨(some 4), (.mov (.t 3)), none,
  []⟩, ⟨(some 5), (.mov (.t 0)), none, []⟩, ⟨(some 6), (.len 0 (.t 5)), none, []⟩, ⟨(some 7), (.bin .lss (.t 4) (.t 6)), none, []⟩]) (.cond (.t 7) .skip (.exit 0))) (.seq (.block 1 (.seq (.region [⟨(some 10), (.mov (.t 0)), none, []⟩, ⟨(some
  11), (.mov (.t 3)), none, []⟩, ⟨(some 12), (.idxs (.t 10) (.t 11)), none, []⟩, ⟨(some 13), (.bin .neq (.t 12) (.c (.int .u8 97))), none, []⟩, ⟨(some 14), (.mov (.t 13)), none, []⟩, ⟨(some 15), (.mov (.t 0)), (some (14, true)), []⟩, ⟨(some
  16), (.mov (.t 3)), (some (14, true)), []⟩, ⟨(some 17), (.idxs (.t 15) (.t 16)), (some (14, true)), []⟩, ⟨(some 18), (.bin .neq (.t 17) (.c (.int .u8 98))), (some (14, true)), []⟩, ⟨(some 19), (.pick (.t 14) (.t 18) (.c (.bool false))),
  none, []⟩]) (.cond (.t 19) (.seq (.region [⟨(some 2), (.mov (.c (.bool false))), none, []⟩]) .ret) .skip))) (.region [⟨(some 8), (.mov (.t 3)), none, []⟩, ⟨(some 9), (.bin .add (.t 8) (.c (.int .i64 1))), none, []⟩, ⟨(some 3), (.mov (.t
  9)), none, []⟩])))))) (.seq (.region [⟨(some 20), (.mov (.t 0)), none, []⟩, ⟨(some 21), (.len 0 (.t 20)), none, []⟩, ⟨(some 22), (.bin .leq (.t 21) (.c (.int .i64 40))), none, []⟩, ⟨(some 2), (.mov (.t 22)), none, []⟩]) .ret)))⟩
theorem irOk104 : compFun Tryd.prog.underlying Tryd.prog.info? sq Tryd.f104 = some ir104 := by kernel_rfl
def ir105 : BFun := ⟨[(.tmp 2)], (.seq (.region [⟨(some 2), (.mov (.c (.bool false))), none, []⟩]) (.seq (.region [⟨(some 3), (.mov (.t 0)), none, []⟩, ⟨(some 4), (.len 0 (.t 3)), none, []⟩, ⟨(some 5), (.bin .leq (.t 4) (.c (.int .i64 40))),
  none, []⟩, ⟨(some 6), (.mov (.t 5)), none, []⟩, ⟨(some 7), (.mov (.t 0)), (some (6, true)), []⟩, ⟨(some 8), (.call (.c (.fn 121 [])) [(.t 7), (.c (.str ⟨#[97, 98]⟩))]), (some (6, true)), []⟩, ⟨(some 9), (.bin .eql (.t 8) (.c (.str
  ⟨#[]⟩))), (some (6, true)), []⟩, ⟨(some 10), (.pick (.t 6) (.t 9) (.c (.bool false))), none, []⟩, ⟨(some 2), (.mov (.t 10)), none, []⟩]) .ret))⟩
theorem irOk105 : compFun Tryd.prog.underlying Tryd.prog.info? sq Tryd.f105 = some ir105 := by kernel_rfl
def ir106 : BFun := ⟨[(.cell 10 (some 4)), (.tmp 11)], (.seq (.region [⟨(some 10), (.new 62 [(.int .i64 0), (.int .i64 0), .nils, .nils]), none, []⟩, ⟨(some 11), (.mov (.c (.bool false))), none, []⟩]) (.seq (.region [⟨(some 22), (.mov (.t
  0)), none, []⟩, ⟨(some 23), (.build [(.int .i64 0), (.int .i64 0), .nils, .nils] [(0, (1, (.t 22)))]), none, []⟩, ⟨(some 12), (.new 62 [(.int .i64 0), (.int .i64 0), .nils, .nils]), none, []⟩, ⟨none, (.store none 4 (.t 12) (.t 23)), none,
  []⟩]) (.seq (.region [⟨(some 24), .mkmap, none, []⟩, ⟨(some 25), (.mov (.t 1)), none, []⟩, ⟨none, (.mset 1 (.t 24) (.t 25) (.c (.int .i64 0))), none, []⟩, ⟨(some 26), (.mov (.t 24)), none, []⟩, ⟨(some 13), (.mov (.t 26)), none, []⟩]) (.seq
  (.region [⟨(some 27), (.mov (.t 1)), none, []⟩, ⟨(some 28), (.mk 9 1 [(.str ⟨#[]⟩)] [(0, (1, (.t 27)))]), none, []⟩, ⟨(some 14), (.mov (.t 28)), none, []⟩]) (.seq (.seq (.region [⟨(some 15), (.mov (.c (.int .i64 0))), none, []⟩]) (.block 0
  (.loop (.seq (.seq (.region [⟨(some 29), (.mov (.t 15)), none, []⟩, ⟨(some 30), (.mov (.t 14)), none, []⟩, ⟨(some 31), (.len 1 (.t 30)), none, []⟩, ⟨(some 32), (.bin .lss (.t 29) (.t 31)), none, []⟩]) (.cond (.t 32) .skip (.exit 0))) (.seq
  (.block 1 (.seq (.region [⟨(some 35), (.mov (.t 14)), none, []⟩, ⟨(some 36), (.mov (.t 15)), none, []⟩, ⟨(some 37), (.idx 1 (.t 35) (.t 36)), none, []⟩, ⟨(some 38), (.load none none (.t 37)), none, []⟩, ⟨(some 16), (.mov (.t 38)), none,
  []⟩]) (.seq (.region [⟨(some 17), (.mov (.c .nils)), none, []⟩]) (.seq (.seq (.region [⟨(some 18), (.mov (.c (.int .i64 0))), none, []⟩]) (.block 2 (.loop (.seq (.seq (.region [⟨(some 39), (.mov (.t 18)), none, []⟩, ⟨(some 40), (.mov (.t
  0)), none, []⟩, ⟨(some 41), (.call (.c (.fn 60 [])) [(.t 40)]), none, []⟩, ⟨(some 42), (.bin .lss (.t 39) (.t 41)), none, []⟩]) (.cond (.t 42) .skip (.exit 2))) (.seq (.block 3 (.seq (.region [⟨(some 45), (.mov (.t 4)), none, []⟩, ⟨(some
  46), (.mov (.t 16)), none, []⟩, ⟨(some 47), (.mov (.t 18)), none, []⟩, ⟨(some 48), (.call (.t 45) [(.t 46), (.t 47)]), none, []⟩, ⟨(some 19), (.mov (.t 48)), none, []⟩]) (.seq (.region [⟨(some 50), (.mov (.t 13)), none, []⟩, ⟨(some 51),
  (.mov (.t 19)), none, []⟩, ⟨(some 52), (.look 1 true (.int .i64 0) (.t 50) (.t 51)), none, []⟩, ⟨(some 49), (.mov (.t 52)), none, []⟩, ⟨(some 53), (.ext 0 (.t 49)), none, []⟩, ⟨(some 54), (.ext 1 (.t 49)), none, []⟩, ⟨(some 20), (.mov (.t
  53)), none, []⟩, ⟨(some 21), (.mov (.t 54)), none, []⟩]) (.seq (.seq (.region [⟨(some 55), (.mov (.t 21)), none, []⟩, ⟨(some 56), (.not (.t 55)), none, []⟩]) (.cond (.t 56) (.seq (.region [⟨(some 57), (.mov (.t 14)), none, []⟩, ⟨(some 58),
  (.len 1 (.t 57)), none, []⟩, ⟨(some 20), (.mov (.t 58)), none, []⟩]) (.seq (.region [⟨(some 59), (.mov (.t 13)), none, []⟩, ⟨(some 60), (.mov (.t 19)), none, []⟩, ⟨(some 61), (.mov (.t 20)), none, []⟩, ⟨none, (.mset 1 (.t 59) (.t 60) (.t
  61)), none, []⟩]) (.seq (.region [⟨(some 62), (.mov (.t 14)), none, []⟩, ⟨(some 63), (.mov (.t 19)), none, []⟩, ⟨(some 64), (.mk 9 1 [(.str ⟨#[]⟩)] [(0, (1, (.t 63)))]), none, []⟩, ⟨(some 65), (.app 9 1 16 (.t 62) (.t 64)), none, []⟩,
  ⟨(some 14), (.mov (.t 65)), none, []⟩]) (.seq (.region [⟨(some 66), (.mov (.t 2)), none, []⟩, ⟨(some 67), (.bin .gtr (.t 66) (.c (.int .i64 0))), none, []⟩, ⟨(some 68), (.mov (.t 67)), none, []⟩, ⟨(some 69), (.mov (.t 14)), (some (68,
  true)), []⟩, ⟨(some 70), (.len 1 (.t 69)), (some (68, true)), []⟩, ⟨(some 71), (.mov (.t 2)), (some (68, true)), []⟩, ⟨(some 72), (.bin .gtr (.t 70) (.t 71)), (some (68, true)), []⟩, ⟨(some 73), (.pick (.t 68) (.t 72) (.c (.bool false))),
  none, []⟩]) (.cond (.t 73) (.seq (.region [⟨(some 74), (.build [(.int .i64 0), (.int .i64 0), .nils, .nils] []), none, []⟩, ⟨none, (.store none 4 (.t 10) (.t 74)), none, []⟩, ⟨(some 11), (.mov (.c (.bool false))), none, []⟩]) .ret)
  .skip))))) .skip)) (.region [⟨(some 75), (.mov (.t 17)), none, []⟩, ⟨(some 76), (.mov (.t 20)), none, []⟩, ⟨(some 77), (.mk 3 1 [(.int .i64 0)] [(0, (1, (.t 76)))]), none, []⟩, ⟨(some 78), (.app 3 1 8 (.t 75) (.t 77)), none, []⟩, ⟨(some
  17), (.mov (.t 78)), none, []⟩]))))) (.region [⟨(some 43), (.mov (.t 18)), none, []⟩, ⟨(some 44), (.bin .add (.t 43) (.c (.int .i64 1))), none, []⟩, ⟨(some 18), (.mov (.t 44)), none, []⟩])))))) (.seq (.region [⟨(some 79), (.lea 2 (.t 12)),
  none, []⟩, ⟨(some 80), (.load (some 62) none (.t 79)), none, []⟩, ⟨(some 81), (.mov (.t 3)), none, []⟩, ⟨(some 82), (.mov (.t 16)), none, []⟩, ⟨(some 83), (.call (.t 81) [(.t 82)]), none, [62]⟩, ⟨(some 84), (.mk 4 1 [(.bool false)] [(0,
  (1, (.t 83)))]), none, []⟩, ⟨(some 85), (.app 4 1 1 (.t 80) (.t 84)), none, []⟩, ⟨(some 86), (.lea 2 (.t 12)), none, []⟩, ⟨none, (.store none 1 (.t 86) (.t 85)), none, []⟩]) (.region [⟨(some 87), (.lea 3 (.t 12)), none, []⟩, ⟨(some 88),
  (.load none none (.t 87)), none, []⟩, ⟨(some 89), (.mov (.t 17)), none, []⟩, ⟨(some 90), (.mk 65 1 [.nils] [(0, (1, (.t 89)))]), none, []⟩, ⟨(some 91), (.app 65 1 24 (.t 88) (.t 90)), none, []⟩, ⟨(some 92), (.lea 3 (.t 12)), none, []⟩,
  ⟨none, (.store none 1 (.t 92) (.t 91)), none, []⟩])))))) (.region [⟨(some 33), (.mov (.t 15)), none, []⟩, ⟨(some 34), (.bin .add (.t 33) (.c (.int .i64 1))), none, []⟩, ⟨(some 15), (.mov (.t 34)), none, []⟩])))))) (.seq (.region [⟨(some
  93), (.load none (some 4) (.t 12)), none, []⟩, ⟨none, (.store none 4 (.t 10) (.t 93)), none, []⟩, ⟨(some 11), (.mov (.c (.bool true))), none, []⟩]) .ret))))))⟩
theorem irOk106 : compFun Tryd.prog.underlying Tryd.prog.info? sq Tryd.f106 = some ir106 := by kernel_rfl
def ir107 : BFun := ⟨[(.tmp 3)], (.seq (.region [⟨(some 3), (.mov (.c (.bool false))), none, []⟩]) (.seq (.region [⟨(some 4), (.load none none (.t 1)), none, []⟩, ⟨(some 5), (.mov (.t 0)), none, []⟩, ⟨(some 6), (.look 1 false (.bool false)
  (.t 4) (.t 5)), none, []⟩, ⟨(some 3), (.mov (.t 6)), none, []⟩]) .ret))⟩
theorem irOk107 : compFun Tryd.prog.underlying Tryd.prog.info? sq Tryd.f107 = some ir107 := by kernel_rfl
def ir108 : BFun := ⟨[(.tmp 5)], (.seq (.region [⟨(some 5), (.mov (.c (.str ⟨#[]⟩))), none, []⟩]) (.seq (.seq (.region [⟨(some 7), (.mov (.t 0)), none, []⟩, ⟨(some 8), (.mov (.t 1)), none, []⟩, ⟨(some 9), (.bin .add (.c (.int .i64 65)) (.t
  8)), none, []⟩, ⟨(some 10), (.conv .i32 (.t 9)), none, []⟩, ⟨(some 11), (.i2s (.t 10)), none, []⟩, ⟨(some 12), (.bin .add (.t 7) (.t 11)), none, []⟩, ⟨(some 6), (.mov (.t 12)), none, []⟩]) (.seq (.region [⟨(some 13), (.mov (.t 0)), none,
  []⟩, ⟨(some 14), (.bin .neq (.t 13) (.c (.str ⟨#[45]⟩))), none, []⟩, ⟨(some 15), (.mov (.t 14)), none, []⟩, ⟨(some 16), (.load none none (.t 2)), (some (15, true)), []⟩, ⟨(some 17), (.mov (.t 6)), (some (15, true)), []⟩, ⟨(some 18), (.look
  1 false (.bool false) (.t 16) (.t 17)), (some (15, true)), []⟩, ⟨(some 19), (.pick (.t 15) (.t 18) (.c (.bool false))), none, []⟩]) (.cond (.t 19) (.seq (.region [⟨(some 20), (.mov (.t 6)), none, []⟩, ⟨(some 5), (.mov (.t 20)), none, []⟩])
  .ret) .skip))) (.seq (.region [⟨(some 5), (.mov (.c (.str ⟨#[45]⟩))), none, []⟩]) .ret)))⟩
theorem irOk108 : compFun Tryd.prog.underlying Tryd.prog.info? sq Tryd.f108 = some ir108 := by kernel_rfl
def ir109 : BFun := ⟨[(.cell 2 (some 4)), (.tmp 3)], (.seq (.region [⟨(some 1), (.box 62 (.t 0)), none, []⟩, ⟨(some 2), (.new 29 [(.int .i64 0), (.int .i64 0), .nils, .nils]), none, []⟩, ⟨(some 3), (.mov (.c (.int .i64 0))), none, []⟩])
  (.seq (.seq (.region [⟨(some 7), (.lea 2 (.t 1)), none, []⟩, ⟨(some 8), (.load none none (.t 7)), none, []⟩, ⟨(some 9), (.len 1 (.t 8)), none, []⟩, ⟨(some 10), (.bin .gtr (.t 9) (.c (.int .i64 150))), none, []⟩]) (.cond (.t 10) (.seq
  (.region [⟨(some 11), (.build [(.int .i64 0), (.int .i64 0), .nils, .nils] []), none, []⟩, ⟨none, (.store none 4 (.t 2) (.t 11)), none, []⟩, ⟨(some 3), (.mov (.c (.int .i64 3))), none, []⟩]) .ret) .skip)) (.seq (.region [⟨(some 12), (.lea
  0 (.t 1)), none, []⟩, ⟨(some 13), (.load (some 62) none (.t 12)), none, []⟩, ⟨(some 14), (.lea 1 (.t 1)), none, []⟩, ⟨(some 15), (.load (some 62) none (.t 14)), none, []⟩, ⟨(some 16), (.lea 2 (.t 1)), none, []⟩, ⟨(some 17), (.load none
  none (.t 16)), none, []⟩, ⟨(some 18), (.call (.c (.fn 64 [])) [(.t 17)]), none, [62]⟩, ⟨(some 19), (.build [(.int .i64 0), (.int .i64 0), .nils, .nils] [(0, (1, (.t 13))), (1, (1, (.t 15))), (2, (1, (.t 18)))]), none, []⟩, ⟨(some 4), (.new
  29 [(.int .i64 0), (.int .i64 0), .nils, .nils]), none, []⟩, ⟨none, (.store none 4 (.t 4) (.t 19)), none, []⟩]) (.seq (.seq (.region [⟨(some 20), (.lea 3 (.t 1)), none, []⟩, ⟨(some 21), (.load none none (.t 20)), none, []⟩, ⟨(some 22),
  (.len 1 (.t 21)), none, []⟩, ⟨(some 23), (.mov (.c (.int .i64 0))), none, []⟩]) (.block 0 (.loop (.seq (.region [⟨(some 24), (.bin .lss (.t 23) (.t 22)), none, []⟩]) (.seq (.cond (.t 24) .skip (.exit 0)) (.seq (.block 1 (.seq (.region
  [⟨(some 25), (.idx 1 (.t 21) (.t 23)), none, []⟩, ⟨(some 26), (.load none none (.t 25)), none, []⟩, ⟨(some 6), (.mov (.t 26)), none, []⟩]) (.region [⟨(some 27), (.lea 3 (.t 4)), none, []⟩, ⟨(some 28), (.load (some 29) none (.t 27)), none,
  []⟩, ⟨(some 29), (.mov (.t 6)), none, []⟩, ⟨(some 30), (.call (.c (.fn 122 [])) [(.t 29)]), none, [29]⟩, ⟨(some 31), (.mk 37 1 [.nils] [(0, (1, (.t 30)))]), none, []⟩, ⟨(some 32), (.app 37 1 24 (.t 28) (.t 31)), none, []⟩, ⟨(some 33),
  (.lea 3 (.t 4)), none, []⟩, ⟨none, (.store none 1 (.t 33) (.t 32)), none, []⟩]))) (.region [⟨(some 34), (.bin .add (.t 23) (.c (.int .i64 1))), none, []⟩, ⟨(some 23), (.mov (.t 34)), none, []⟩]))))))) (.seq (.region [⟨(some 35), (.load
  none (some 4) (.t 4)), none, []⟩, ⟨none, (.store none 4 (.t 2) (.t 35)), none, []⟩, ⟨(some 3), (.mov (.c (.int .i64 0))), none, []⟩]) .ret)))))⟩
theorem irOk109 : compFun Tryd.prog.underlying Tryd.prog.info? sq Tryd.f109 = some ir109 := by kernel_rfl
def ir115 : BFun := ⟨[(.tmp 6)], (.seq (.region [⟨(some 6), (.mov (.c (.int .i64 0))), none, []⟩]) (.seq (.seq (.region [⟨(some 7), (.mov (.c (.int .i64 0))), none, []⟩]) (.block 0 (.loop (.seq (.seq (.region [⟨(some 9), (.mov (.t 7)), none,
  []⟩, ⟨(some 10), (.mov (.t 0)), none, []⟩, ⟨(some 11), (.bin .lss (.t 9) (.t 10)), none, []⟩]) (.cond (.t 11) .skip (.exit 0))) (.seq (.block 1 (.seq (.region [⟨(some 14), (.mov (.t 2)), none, []⟩, ⟨(some 15), (.mov (.t 7)), none, []⟩,
  ⟨(some 16), (.call (.c (.fn 124 [])) [(.t 14), (.t 15)]), none, []⟩, ⟨(some 17), (.bin .eql (.t 16) (.c (.int .i64 2))), none, []⟩, ⟨(some 8), (.mov (.t 17)), none, []⟩]) (.seq (.seq (.region [⟨(some 18), (.mov (.t 8)), none, []⟩, ⟨(some
  19), (.not (.t 18)), none, []⟩, ⟨(some 20), (.mov (.t 19)), none, []⟩, ⟨(some 21), (.mov (.t 1)), (some (20, true)), []⟩, ⟨(some 22), (.mov (.t 7)), (some (20, true)), []⟩, ⟨(some 23), (.conv .u64 (.t 22)), (some (20, true)), []⟩, ⟨(some
  24), (.bin .shr (.t 21) (.t 23)), (some (20, true)), []⟩, ⟨(some 25), (.bin .and (.t 24) (.c (.int .i64 1))), (some (20, true)), []⟩, ⟨(some 26), (.bin .eql (.t 25) (.c (.int .i64 1))), (some (20, true)), []⟩, ⟨(some 27), (.pick (.t 20)
  (.t 26) (.c (.bool false))), none, []⟩]) (.cond (.t 27) (.seq (.region [⟨(some 6), (.mov (.c (.int .i64 (-1)))), none, []⟩]) .ret) .skip)) (.seq (.region [⟨(some 28), (.mov (.t 8)), none, []⟩]) (.cond (.t 28) (.region [⟨(some 29), (.mov
  (.t 1)), none, []⟩, ⟨(some 30), (.mov (.t 7)), none, []⟩, ⟨(some 31), (.conv .u64 (.t 30)), none, []⟩, ⟨(some 32), (.bin .shl (.c (.int .i64 1)) (.t 31)), none, []⟩, ⟨(some 33), (.bin .or (.t 29) (.t 32)), none, []⟩, ⟨(some 1), (.mov (.t
  33)), none, []⟩]) .skip))))) (.region [⟨(some 12), (.mov (.t 7)), none, []⟩, ⟨(some 13), (.bin .add (.t 12) (.c (.int .i64 1))), none, []⟩, ⟨(some 7), (.mov (.t 13)), none, []⟩])))))) (.seq (.region [⟨(some 34), (.mov (.t 1)), none, []⟩,
  ⟨(some 6), (.mov (.t 34)), none, []⟩]) .ret)))⟩
theorem irOk115 : compFun Tryd.prog.underlying Tryd.prog.info? sq Tryd.f115 = some ir115 := by kernel_rfl
def ir116 : BFun := ⟨[(.tmp 8)], (.seq (.region [⟨(some 8), (.mov (.c (.bool false))), none, []⟩]) (.seq (.seq (.region [⟨(some 9), (.mov (.c (.int .i64 0))), none, []⟩]) (.block 0 (.loop (.seq (.seq (.region [⟨(some 10), (.mov (.t 9)),
  none, []⟩, ⟨(some 11), (.mov (.t 0)), none, []⟩, ⟨(some 12), (.nilck (.t 11)), none, []⟩, ⟨(some 13), (.lea 3 (.t 12)), none, []⟩, ⟨(some 14), (.load none none (.t 13)), none, []⟩, ⟨(some 15), (.mov (.t 2)), none, []⟩, ⟨(some 16), (.idx 1
  (.t 14) (.t 15)), none, []⟩, ⟨(some 17), (.load none none (.t 16)), none, []⟩, ⟨(some 18), (.len 1 (.t 17)), none, []⟩, ⟨(some 19), (.bin .lss (.t 10) (.t 18)), none, []⟩]) (.cond (.t 19) .skip (.exit 0))) (.seq (.block 1 (.seq (.region
  [⟨(some 22), (.mov (.t 1)), none, []⟩, ⟨(some 23), (.mov (.t 0)), none, []⟩, ⟨(some 24), (.nilck (.t 23)), none, []⟩, ⟨(some 25), (.lea 3 (.t 24)), none, []⟩, ⟨(some 26), (.load none none (.t 25)), none, []⟩, ⟨(some 27), (.mov (.t 2)),
  none, []⟩, ⟨(some 28), (.idx 1 (.t 26) (.t 27)), none, []⟩, ⟨(some 29), (.load none none (.t 28)), none, []⟩, ⟨(some 30), (.mov (.t 9)), none, []⟩, ⟨(some 31), (.idx 1 (.t 29) (.t 30)), none, []⟩, ⟨(some 32), (.load none none (.t 31)),
  none, []⟩, ⟨(some 33), (.idx 1 (.t 22) (.t 32)), none, []⟩, ⟨(some 34), (.load none none (.t 33)), none, []⟩, ⟨(some 35), (.mov (.t 1)), none, []⟩, ⟨(some 36), (.mov (.t 0)), none, []⟩, ⟨(some 37), (.nilck (.t 36)), none, []⟩, ⟨(some 38),
  (.lea 3 (.t 37)), none, []⟩, ⟨(some 39), (.load none none (.t 38)), none, []⟩, ⟨(some 40), (.mov (.t 3)), none, []⟩, ⟨(some 41), (.idx 1 (.t 39) (.t 40)), none, []⟩, ⟨(some 42), (.load none none (.t 41)), none, []⟩, ⟨(some 43), (.mov (.t
  9)), none, []⟩, ⟨(some 44), (.idx 1 (.t 42) (.t 43)), none, []⟩, ⟨(some 45), (.load none none (.t 44)), none, []⟩, ⟨(some 46), (.idx 1 (.t 35) (.t 45)), none, []⟩, ⟨(some 47), (.load none none (.t 46)), none, []⟩, ⟨(some 48), (.bin .neq
  (.t 34) (.t 47)), none, []⟩]) (.cond (.t 48) (.seq (.region [⟨(some 8), (.mov (.c (.bool false))), none, []⟩]) .ret) .skip))) (.region [⟨(some 20), (.mov (.t 9)), none, []⟩, ⟨(some 21), (.bin .add (.t 20) (.c (.int .i64 1))), none, []⟩,
  ⟨(some 9), (.mov (.t 21)), none, []⟩])))))) (.seq (.region [⟨(some 8), (.mov (.c (.bool true))), none, []⟩]) .ret)))⟩
theorem irOk116 : compFun Tryd.prog.underlying Tryd.prog.info? sq Tryd.f116 = some ir116 := by kernel_rfl
def ir119 : BFun := ⟨[(.tmp 4)], (.seq (.region [⟨(some 4), (.mov (.c (.bool false))), none, []⟩]) (.seq (.region [⟨(some 5), (.lea 2 (.t 1)), none, []⟩, ⟨(some 6), (.load none none (.t 5)), none, []⟩, ⟨(some 7), (.load none none (.t 2)),
  none, []⟩, ⟨(some 8), (.mov (.t 0)), none, []⟩, ⟨(some 9), (.idx 1 (.t 7) (.t 8)), none, []⟩, ⟨(some 10), (.load none none (.t 9)), none, []⟩, ⟨(some 11), (.idx 1 (.t 6) (.t 10)), none, []⟩, ⟨(some 12), (.load none none (.t 11)), none,
  []⟩, ⟨(some 4), (.mov (.t 12)), none, []⟩]) .ret))⟩
theorem irOk119 : compFun Tryd.prog.underlying Tryd.prog.info? sq Tryd.f119 = some ir119 := by kernel_rfl
def ir120 : BFun := ⟨[(.tmp 7)], (.seq (.region [⟨(some 7), (.mov (.c (.int .i64 0))), none, []⟩]) (.seq (.region [⟨(some 8), (.load none none (.t 2)), none, []⟩, ⟨(some 9), (.lea 3 (.t 3)), none, []⟩, ⟨(some 10), (.load none none (.t 9)),
  none, []⟩, ⟨(some 11), (.load none none (.t 4)), none, []⟩, ⟨(some 12), (.mov (.t 0)), none, []⟩, ⟨(some 13), (.idx 1 (.t 11) (.t 12)), none, []⟩, ⟨(some 14), (.load none none (.t 13)), none, []⟩, ⟨(some 15), (.idx 1 (.t 10) (.t 14)),
  none, []⟩, ⟨(some 16), (.load none none (.t 15)), none, []⟩, ⟨(some 17), (.mov (.t 1)), none, []⟩, ⟨(some 18), (.idx 1 (.t 16) (.t 17)), none, []⟩, ⟨(some 19), (.load none none (.t 18)), none, []⟩, ⟨(some 20), (.idx 1 (.t 8) (.t 19)),
  none, []⟩, ⟨(some 21), (.load none none (.t 20)), none, []⟩, ⟨(some 7), (.mov (.t 21)), none, []⟩]) .ret))⟩
theorem irOk120 : compFun Tryd.prog.underlying Tryd.prog.info? sq Tryd.f120 = some ir120 := by kernel_rfl
def ir121 : BFun := ⟨[(.tmp 4)], (.seq (.region [⟨(some 4), (.mov (.c (.str ⟨#[]⟩))), none, []⟩]) (.seq (.seq (.region [⟨(some 7), (.mov (.t 0)), none, []⟩, ⟨(some 8), (.bin .eql (.t 7) (.c (.str ⟨#[]⟩))), none, []⟩, ⟨(some 9), (.mov (.t
  8)), none, []⟩, ⟨(some 10), (.mov (.t 1)), (some (9, false)), []⟩, ⟨(some 11), (.bin .eql (.t 10) (.c (.str ⟨#[]⟩))), (some (9, false)), []⟩, ⟨(some 12), (.pick (.t 9) (.c (.bool true)) (.t 11)), none, []⟩]) (.cond (.t 12) (.seq (.region
  [⟨(some 13), (.mov (.t 0)), none, []⟩, ⟨(some 4), (.mov (.t 13)), none, []⟩]) .ret) .skip)) (.seq (.seq (.region [⟨(some 14), (.mov (.t 1)), none, []⟩, ⟨(some 15), (.len 0 (.t 14)), none, []⟩, ⟨(some 16), (.bin .eql (.t 15) (.c (.int .i64
  1))), none, []⟩, ⟨(some 17), (.mov (.t 16)), none, []⟩, ⟨(some 18), (.mov (.t 1)), (some (17, true)), []⟩, ⟨(some 19), (.idxs (.t 18) (.c (.int .i64 0))), (some (17, true)), []⟩, ⟨(some 20), (.bin .lss (.t 19) (.c (.int .u8 128))), (some
  (17, true)), []⟩, ⟨(some 21), (.pick (.t 17) (.t 20) (.c (.bool false))), none, []⟩]) (.cond (.t 21) (.seq (.region [⟨(some 22), (.mov (.t 0)), none, []⟩, ⟨(some 23), (.mov (.t 1)), none, []⟩, ⟨(some 24), (.idxs (.t 23) (.c (.int .i64
  0))), none, []⟩, ⟨(some 26), (.mov (.t 1)), none, []⟩, ⟨(some 27), (.idxs (.t 26) (.c (.int .i64 0))), none, []⟩, ⟨(some 25), (.call (.c (.fn 127 [])) [(.t 22), (.t 24)]), none, []⟩, ⟨(some 28), (.call (.c (.fn 126 [])) [(.t 25), (.t
  27)]), none, []⟩, ⟨(some 4), (.mov (.t 28)), none, []⟩]) .ret) .skip)) (.seq (.seq (.region [⟨(some 30), (.mov (.t 1)), none, []⟩, ⟨(some 31), (.call (.c (.fn 128 [])) [(.t 30)]), none, []⟩, ⟨(some 29), (.mov (.t 31)), none, []⟩, ⟨(some
  32), (.ext 0 (.t 29)), none, []⟩, ⟨(some 33), (.ext 1 (.t 29)), none, []⟩, ⟨(some 5), (.new 144 [(.bool false), (.bool false), (.bool false), (.bool false), (.bool false), (.bool false), (.bool false), (.bool false), (.bool false), (.bool
  false), (.bool false), (.bool false), (.bool false), (.bool false), (.bool false), (.bool false), (.bool false), (.bool false), (.bool false), (.bool false), (.bool false), (.bool false), (.bool false), (.bool false), (.bool false), (.bool
  false), (.bool false), (.bool false), (.bool false), (.bool false), (.bool false), (.bool false), (.bool false), (.bool false), (.bool false), (.bool false), (.bool false), (.bool false), (.bool false), (.bool false), (.bool false), (.bool
  false), (.bool false), (.bool false), (.bool false), (.bool false), (.bool false), (.bool false), (.bool false), (.bool false), (.bool false), (.bool false), (.bool false), (.bool false), (.bool false), (.bool false), (.bool false), (.bool
  false), (.bool false), (.bool false), (.bool false), (.bool false), (.bool false), (.bool false), (.bool false), (.bool false), (.bool false), (.bool false), (.bool false), (.bool false), (.bool false), (.bool false), (.bool false), (.bool
  false), (.bool false), (.bool false), (.bool false), (.bool false), (.bool false), (.bool false), (.bool false), (.bool false), (.bool false), (.bool false), (.bool false), (.bool false), (.bool false), (.bool false), (.bool false), (.bool
  false), (.bool false), (.bool false), (.bool false), (.bool false), (.bool false), (.bool false), (.bool false), (.bool false), (.bool false), (.bool false), (.bool false), (.bool false), (.bool false), (.bool false), (.bool false), (.bool
  false), (.bool false), (.bool false), (.bool false), (.bool false), (.bool false), (.bool false), (.bool false), (.bool false), (.bool false), (.bool false), (.bool false), (.bool false), (.bool false), (.bool false), (.bool false), (.bool
  false), (.bool false), (.bool false), (.bool false), (.bool false), (.bool false), (.bool false), (.bool false), (.bool false), (.bool false), (.bool false), (.bool false), (.bool false), (.bool false), (.bool false), (.bool false), (.bool
  false), (.bool false), (.bool false), (.bool false), (.bool false), (.bool false), (.bool false), (.bool false), (.bool false), (.bool false), (.bool false), (.bool false), (.bool false), (.bool false), (.bool false), (.bool false), (.bool
  false), (.bool false), (.bool false), (.bool false), (.bool false), (.bool false), (.bool false), (.bool false), (.bool false), (.bool false), (.bool false), (.bool false), (.bool false), (.bool false), (.bool false), (.bool false), (.bool
  false), (.bool false), (.bool false), (.bool false), (.bool false), (.bool false), (.bool false), (.bool false), (.bool false), (.bool false), (.bool false), (.bool false), (.bool false), (.bool false), (.bool false), (.bool false), (.bool
  false), (.bool false), (.bool false), (.bool false), (.bool false), (.bool false), (.bool false), (.bool false), (.bool false), (.bool false), (.bool false), (.bool false), (.bool false), (.bool false), (.bool false), (.bool false), (.bool
  false), (.bool false), (.bool false), (.bool false), (.bool false), (.bool false), (.bool false), (.bool false), (.bool false), (.bool false), (.bool false), (.bool false), (.bool false), (.bool false), (.bool false), (.bool false), (.bool
  false), (.bool false), (.bool false), (.bool false), (.bool false), (.bool false), (.bool false), (.bool false), (.bool false), (.bool false), (.bool false), (.bool false), (.bool false), (.bool false), (.bool false), (.bool false), (.bool
  false), (.bool false), (.bool false), (.bool false), (.bool false), (.bool false), (.bool false), (.bool false), (.bool false), (.bool false), (.bool false), (.bool false), (.bool false), (.bool false), (.bool false), (.bool false), (.bool
  false), (.bool false), (.bool false), (.bool false), (.bool false), (.bool false), (.bool false)]), none, []⟩, ⟨none, (.store none 256 (.t 5) (.t 32)), none, []⟩, ⟨(some 6), (.mov (.t 33)), none, []⟩]) (.seq (.region [⟨(some 34), (.mov (.t
  6)), none, []⟩]) (.cond (.t 34) (.seq (.region [⟨(some 35), (.mov (.t 0)), none, []⟩, ⟨(some 36), (.call (.c (.fn 130 [])) [(.t 35), (.t 5)]), none, []⟩, ⟨(some 37), (.call (.c (.fn 129 [])) [(.t 36), (.t 5)]), none, []⟩, ⟨(some 4), (.mov
  (.t 37)), none, []⟩]) .ret) .skip))) (.seq (.region [⟨(some 38), (.mov (.t 0)), none, []⟩, ⟨(some 39), (.mov (.t 1)), none, []⟩, ⟨(some 40), (.call (.c (.fn 132 [])) [(.t 38), (.t 39)]), none, []⟩, ⟨(some 41), (.mov (.t 1)), none, []⟩,
  ⟨(some 42), (.call (.c (.fn 131 [])) [(.t 40), (.t 41)]), none, []⟩, ⟨(some 4), (.mov (.t 42)), none, []⟩]) .ret)))))⟩
theorem irOk121 : compFun Tryd.prog.underlying Tryd.prog.info? sq Tryd.f121 = some ir121 := by kernel_rfl
def ir122 : BFun := ⟨[(.tmp 2)], (.seq (.region [⟨(some 2), (.mov (.c .nils)), none, []⟩]) (.seq (.region [⟨(some 3), (.mov (.c .nils)), none, []⟩]) (.seq (.seq (.region [⟨(some 6), (.mov (.t 0)), none, []⟩, ⟨(some 7), (.len 1 (.t 6)), none,
  []⟩, ⟨(some 8), (.mov (.c (.int .i64 0))), none, []⟩]) (.block 0 (.loop (.seq (.region [⟨(some 9), (.bin .lss (.t 8) (.t 7)), none, []⟩]) (.seq (.cond (.t 9) .skip (.exit 0)) (.seq (.block 1 (.seq (.region [⟨(some 10), (.idx 1 (.t 6) (.t
  8)), none, []⟩, ⟨(some 11), (.load none none (.t 10)), none, []⟩, ⟨(some 5), (.mov (.t 11)), none, []⟩]) (.region [⟨(some 12), (.mov (.t 3)), none, []⟩, ⟨(some 13), (.mov (.t 5)), none, []⟩, ⟨(some 14), (.mk 2 1 [(.int .i64 0)] [(0, (1,
  (.t 13)))]), none, []⟩, ⟨(some 15), (.app 2 1 8 (.t 12) (.t 14)), none, []⟩, ⟨(some 3), (.mov (.t 15)), none, []⟩]))) (.region [⟨(some 16), (.bin .add (.t 8) (.c (.int .i64 1))), none, []⟩, ⟨(some 8), (.mov (.t 16)), none, []⟩])))))))
  (.seq (.region [⟨(some 17), (.mov (.t 3)), none, []⟩, ⟨(some 2), (.mov (.t 17)), none, []⟩]) .ret))))⟩
theorem irOk122 : compFun Tryd.prog.underlying Tryd.prog.info? sq Tryd.f122 = some ir122 := by kernel_rfl
def ir124 : BFun := ⟨[(.tmp 4)], (.seq (.region [⟨(some 4), (.mov (.c (.int .i64 0))), none, []⟩]) (.seq (.region [⟨(some 5), (.mov (.t 0)), none, []⟩, ⟨(some 6), (.mov (.t 1)), none, []⟩, ⟨(some 7), (.call (.c (.fn 91 [])) [(.t 6)]), none,
  []⟩, ⟨(some 8), (.bin .quo (.t 5) (.t 7)), none, []⟩, ⟨(some 9), (.bin .rem (.t 8) (.c (.int .i64 3))), none, []⟩, ⟨(some 4), (.mov (.t 9)), none, []⟩]) .ret))⟩
theorem irOk124 : compFun Tryd.prog.underlying Tryd.prog.info? sq Tryd.f124 = some ir124 := by kernel_rfl
def ir128 : BFun := ⟨[(.cell 2 (some 256)), (.tmp 3)], (.seq (.region [⟨(some 2), (.new 144 [(.bool false), (.bool false), (.bool false), (.bool false), (.bool false), (.bool false), (.bool false), (.bool false), (.bool false), (.bool
  false), (.bool false), (.bool false), (.bool false), (.bool false), (.bool false), (.bool false), (.bool false), (.bool false), (.bool false), (.bool false), (.bool false), (.bool false), (.bool false), (.bool false), (.bool false), (.bool
  false), (.bool false), (.bool false), (.bool false), (.bool false), (.bool false), (.bool false), (.bool false), (.bool false), (.bool false), (.bool false), (.bool false), (.bool false), (.bool false), (.bool false), (.bool false), (.bool
  false), (.bool false), (.bool false), (.bool false), (.bool false), (.bool false), (.bool false), (.bool false), (.bool false), (.bool false), (.bool false), (.bool false), (.bool false), (.bool false), (.bool false), (.bool false), (.bool
  false), (.bool false), (.bool false), (.bool false), (.bool false), (.bool false), (.bool false), (.bool false), (.bool false), (.bool false), (.bool false), (.bool false), (.bool false), (.bool false), (.bool false), (.bool false), (.bool
  false), (.bool false), (.bool false), (.bool false), (.bool false), (.bool false), (.bool false), (.bool false), (.bool false), (.bool false), (.bool false), (.bool false), (.bool false), (.bool false), (.bool false), (.bool false), (.bool
  false), (.bool false), (.bool false), (.bool false), (.bool false), (.bool false), (.bool false), (.bool false), (.bool false), (.bool false), (.bool false), (.bool false), (.bool false), (.bool false), (.bool false), (.bool false), (.bool
  false), (.bool false), (.bool false), (.bool false), (.bool false), (.bool false), (.bool false), (.bool false), (.bool false), (.bool false), (.bool false), (.bool false), (.bool false), (.bool false), (.bool false), (.bool false), (.bool
  false), (.bool false), (.bool false), (.bool false), (.bool false), (.bool false), (.bool false), (.bool false), (.bool false), (.bool false), (.bool false), (.bool false), (.bool false), (.bool false), (.bool false), (.bool false), (.bool
  false), (.bool false), (.bool false), (.bool false), (.bool false), (.bool false), (.bool false), (.bool false), (.bool false), (.bool false), (.bool false), (.bool false), (.bool false), (.bool false), (.bool false), (.bool false), (.bool
  false), (.bool false), (.bool false), (.bool false), (.bool false), (.bool false), (.bool false), (.bool false), (.bool false), (.bool false), (.bool false), (.bool false), (.bool false), (.bool false), (.bool false), (.bool false), (.bool
  false), (.bool false), (.bool false), (.bool false), (.bool false), (.bool false), (.bool false), (.bool false), (.bool false), (.bool false), (.bool false), (.bool false), (.bool false), (.bool false), (.bool false), (.bool false), (.bool
  false), (.bool false), (.bool false), (.bool false), (.bool false), (.bool false), (.bool false), (.bool false), (.bool false), (.bool false), (.bool false), (.bool false), (.bool false), (.bool false), (.bool false), (.bool false), (.bool
  false), (.bool false), (.bool false), (.bool false), (.bool false), (.bool false), (.bool false), (.bool false), (.bool false), (.bool false), (.bool false), (.bool false), (.bool false), (.bool false), (.bool false), (.bool false), (.bool
  false), (.bool false), (.bool false), (.bool false), (.bool false), (.bool false), (.bool false), (.bool false), (.bool false), (.bool false), (.bool false), (.bool false), (.bool false), (.bool false), (.bool false), (.bool false), (.bool
  false), (.bool false), (.bool false), (.bool false), (.bool false), (.bool false), (.bool false), (.bool false), (.bool false), (.bool false), (.bool false), (.bool false), (.bool false), (.bool false), (.bool false), (.bool false), (.bool
  false), (.bool false), (.bool false), (.bool false), (.bool false), (.bool false), (.bool false)]), none, []⟩, ⟨(some 3), (.mov (.c (.bool false))), none, []⟩]) (.seq (.seq (.region [⟨(some 4), (.mov (.c (.int .i64 0))), none, []⟩])
  (.block 0 (.loop (.seq (.seq (.region [⟨(some 6), (.mov (.t 4)), none, []⟩, ⟨(some 7), (.mov (.t 0)), none, []⟩, ⟨(some 8), (.len 0 (.t 7)), none, []⟩, ⟨(some 9), (.bin .lss (.t 6) (.t 8)), none, []⟩]) (.cond (.t 9) .skip (.exit 0))) (.seq
  (.block 1 (.seq (.region [⟨(some 12), (.mov (.t 0)), none, []⟩, ⟨(some 13), (.mov (.t 4)), none, []⟩, ⟨(some 14), (.idxs (.t 12) (.t 13)), none, []⟩, ⟨(some 5), (.mov (.t 14)), none, []⟩]) (.seq (.seq (.region [⟨(some 15), (.mov (.t 5)),
  none, []⟩, ⟨(some 16), (.bin .geq (.t 15) (.c (.int .u8 128))), none, []⟩]) (.cond (.t 16) (.seq (.region [⟨(some 17), (.load none (some 256) (.t 2)), none, []⟩, ⟨none, (.store none 256 (.t 2) (.t 17)), none, []⟩, ⟨(some 3), (.mov (.c
  (.bool false))), none, []⟩]) .ret) .skip)) (.region [⟨(some 18), (.mov (.t 5)), none, []⟩, ⟨(some 19), (.idxa 256 1 (.t 2) (.t 18)), none, []⟩, ⟨none, (.store none 1 (.t 19) (.c (.bool true))), none, []⟩])))) (.region [⟨(some 10), (.mov
  (.t 4)), none, []⟩, ⟨(some 11), (.bin .add (.t 10) (.c (.int .i64 1))), none, []⟩, ⟨(some 4), (.mov (.t 11)), none, []⟩])))))) (.seq (.region [⟨(some 20), (.load none (some 256) (.t 2)), none, []⟩, ⟨none, (.store none 256 (.t 2) (.t 20)),
  none, []⟩, ⟨(some 3), (.mov (.c (.bool true))), none, []⟩]) .ret)))⟩
theorem irOk128 : compFun Tryd.prog.underlying Tryd.prog.info? sq Tryd.f128 = some ir128 := by kernel_rfl
def ir129 : BFun := ⟨[(.tmp 4)], (.seq (.region [⟨(some 4), (.mov (.c (.str ⟨#[]⟩))), none, []⟩]) (.seq (.block 0 (.loop (.seq (.seq (.region [⟨(some 5), (.mov (.t 0)), none, []⟩, ⟨(some 6), (.len 0 (.t 5)), none, []⟩, ⟨(some 7), (.bin .gtr
  (.t 6) (.c (.int .i64 0))), none, []⟩]) (.cond (.t 7) .skip (.exit 0))) (.block 1 (.seq (.seq (.region [⟨(some 8), (.mov (.t 1)), none, []⟩, ⟨(some 9), (.mov (.t 0)), none, []⟩, ⟨(some 10), (.idxs (.t 9) (.c (.int .i64 0))), none, []⟩,
  ⟨(some 11), (.call (.c (.fn 134 [])) [(.t 8), (.t 10)]), none, []⟩, ⟨(some 12), (.not (.t 11)), none, []⟩]) (.cond (.t 12) (.exit 0) .skip)) (.region [⟨(some 13), (.mov (.t 0)), none, []⟩, ⟨(some 14), (.sslice (.t 13) (some (.c (.int .i64
  1))) none), none, []⟩, ⟨(some 0), (.mov (.t 14)), none, []⟩])))))) (.seq (.region [⟨(some 15), (.mov (.t 0)), none, []⟩, ⟨(some 4), (.mov (.t 15)), none, []⟩]) .ret)))⟩
theorem irOk129 : compFun Tryd.prog.underlying Tryd.prog.info? sq Tryd.f129 = some ir129 := by kernel_rfl
def ir130 : BFun := ⟨[(.tmp 4)], (.seq (.region [⟨(some 4), (.mov (.c (.str ⟨#[]⟩))), none, []⟩]) (.seq (.block 0 (.loop (.seq (.seq (.region [⟨(some 5), (.mov (.t 0)), none, []⟩, ⟨(some 6), (.len 0 (.t 5)), none, []⟩, ⟨(some 7), (.bin .gtr
  (.t 6) (.c (.int .i64 0))), none, []⟩]) (.cond (.t 7) .skip (.exit 0))) (.block 1 (.seq (.seq (.region [⟨(some 8), (.mov (.t 1)), none, []⟩, ⟨(some 9), (.mov (.t 0)), none, []⟩, ⟨(some 10), (.mov (.t 0)), none, []⟩, ⟨(some 11), (.len 0 (.t
  10)), none, []⟩, ⟨(some 12), (.bin .sub (.t 11) (.c (.int .i64 1))), none, []⟩, ⟨(some 13), (.idxs (.t 9) (.t 12)), none, []⟩, ⟨(some 14), (.call (.c (.fn 134 [])) [(.t 8), (.t 13)]), none, []⟩, ⟨(some 15), (.not (.t 14)), none, []⟩])
  (.cond (.t 15) (.exit 0) .skip)) (.region [⟨(some 16), (.mov (.t 0)), none, []⟩, ⟨(some 17), (.mov (.t 0)), none, []⟩, ⟨(some 18), (.len 0 (.t 17)), none, []⟩, ⟨(some 19), (.bin .sub (.t 18) (.c (.int .i64 1))), none, []⟩, ⟨(some 20),
  (.sslice (.t 16) none (some (.t 19))), none, []⟩, ⟨(some 0), (.mov (.t 20)), none, []⟩])))))) (.seq (.region [⟨(some 21), (.mov (.t 0)), none, []⟩, ⟨(some 4), (.mov (.t 21)), none, []⟩]) .ret)))⟩
theorem irOk130 : compFun Tryd.prog.underlying Tryd.prog.info? sq Tryd.f130 = some ir130 := by kernel_rfl
def ir134 : BFun := ⟨[(.tmp 4)], (.seq (.region [⟨(some 4), (.mov (.c (.bool false))), none, []⟩]) (.seq (.region [⟨(some 5), (.mov (.t 0)), none, []⟩, ⟨(some 6), (.mov (.t 1)), none, []⟩, ⟨(some 7), (.nilck (.t 5)), none, []⟩, ⟨(some 8),
  (.idxa 256 1 (.t 7) (.t 6)), none, []⟩, ⟨(some 9), (.load none none (.t 8)), none, []⟩, ⟨(some 4), (.mov (.t 9)), none, []⟩]) .ret))⟩
theorem irOk134 : compFun Tryd.prog.underlying Tryd.prog.info? sq Tryd.f134 = some ir134 := by kernel_rfl
def fnOf : Nat → Option BFun
  | 6 => some ir6
  | 11 => some ir11
  | 16 => some ir16
  | 17 => some ir17
  | 18 => some ir18
  | 19 => some ir19
  | 20 => some ir20
  | 21 => some ir21
  | 22 => some ir22
  | 31 => some ir31
  | 32 => some ir32
  | 34 => some ir34
  | 36 => some ir36
  | 38 => some ir38
  | 41 => some ir41
  | 42 => some ir42
  | 48 => some ir48
  | 49 => some ir49
  | 50 => some ir50
  | 51 => some ir51
  | 52 => some ir52
  | 53 => some ir53
  | 54 => some ir54
  | 59 => some ir59
  | 60 => some ir60
  | 63 => some ir63
  | 64 => some ir64
  | 65 => some ir65
  | 66 => some ir66
  | 71 => some ir71
  | 73 => some ir73
  | 74 => some ir74
  | 75 => some ir75
  | 76 => some ir76
  | 77 => some ir77
  | 78 => some ir78
  | 79 => some ir79
  | 80 => some ir80
  | 83 => some ir83
  | 88 => some ir88
  | 91 => some ir91
  | 92 => some ir92
  | 93 => some ir93
  | 99 => some ir99
  | 100 => some ir100
  | 101 => some ir101
  | 102 => some ir102
  | 103 => some ir103
  | 104 => some ir104
  | 105 => some ir105
  | 106 => some ir106
  | 107 => some ir107
  | 108 => some ir108
  | 109 => some ir109
  | 115 => some ir115
  | 116 => some ir116
  | 119 => some ir119
  | 120 => some ir120
  | 121 => some ir121
  | 122 => some ir122
  | 124 => some ir124
  | 128 => some ir128
  | 129 => some ir129
  | 130 => some ir130
  | 134 => some ir134
  | _ => none
def gam (base : Nat) : Ctx := ⟨base, fnOf, itoaB 118⟩
theorem linked (base : Nat) : Linked Tryd.prog sq (gam base) := by
  intro f bfn h
  simp only [gam, fnOf] at h
  split at h
  · cases h; exact ⟨Tryd.f6, Tryd.func6, irOk6, by kernel_rfl⟩
  · cases h; exact ⟨Tryd.f11, Tryd.func11, irOk11, by kernel_rfl⟩
  · cases h; exact ⟨Tryd.f16, Tryd.func16, irOk16, by kernel_rfl⟩
  · cases h; exact ⟨Tryd.f17, Tryd.func17, irOk17, by kernel_rfl⟩
  · cases h; exact ⟨Tryd.f18, Tryd.func18, irOk18, by kernel_rfl⟩
  · cases h; exact ⟨Tryd.f19, Tryd.func19, irOk19, by kernel_rfl⟩
  · cases h; exact ⟨Tryd.f20, Tryd.func20, irOk20, by kernel_rfl⟩
  · cases h; exact ⟨Tryd.f21, Tryd.func21, irOk21, by kernel_rfl⟩
  · cases h; exact ⟨Tryd.f22, Tryd.func22, irOk22, by kernel_rfl⟩
  · cases h; exact ⟨Tryd.f31, Tryd.func31, irOk31, by kernel_rfl⟩
  · cases h; exact ⟨Tryd.f32, Tryd.func32, irOk32, by kernel_rfl⟩
  · cases h; exact ⟨Tryd.f34, Tryd.func34, irOk34, by kernel_rfl⟩
  · cases h; exact ⟨Tryd.f36, Tryd.func36, irOk36, by kernel_rfl⟩
  · cases h; exact ⟨Tryd.f38, Tryd.func38, irOk38, by kernel_rfl⟩
  · cases h; exact ⟨Tryd.f41, Tryd.func41, irOk41, by kernel_rfl⟩
  · cases h; exact ⟨Tryd.f42, Tryd.func42, irOk42, by kernel_rfl⟩
  · cases h; exact ⟨Tryd.f48, Tryd.func48, irOk48, by kernel_rfl⟩
  · cases h; exact ⟨Tryd.f49, Tryd.func49, irOk49, by kernel_rfl⟩
  · cases h; exact ⟨Tryd.f50, Tryd.func50, irOk50, by kernel_rfl⟩
  · cases h; exact ⟨Tryd.f51, Tryd.func51, irOk51, by kernel_rfl⟩
  · cases h; exact ⟨Tryd.f52, Tryd.func52, irOk52, by kernel_rfl⟩
  · cases h; exact ⟨Tryd.f53, Tryd.func53, irOk53, by kernel_rfl⟩
  · cases h; exact ⟨Tryd.f54, Tryd.func54, irOk54, by kernel_rfl⟩
  · cases h; exact ⟨Tryd.f59, Tryd.func59, irOk59, by kernel_rfl⟩
  · cases h; exact ⟨Tryd.f60, Tryd.func60, irOk60, by kernel_rfl⟩
  · cases h; exact ⟨Tryd.f63, Tryd.func63, irOk63, by kernel_rfl⟩
  · cases h; exact ⟨Tryd.f64, Tryd.func64, irOk64, by kernel_rfl⟩
  · cases h; exact ⟨Tryd.f65, Tryd.func65, irOk65, by kernel_rfl⟩
  · cases h; exact ⟨Tryd.f66, Tryd.func66, irOk66, by kernel_rfl⟩
  · cases h; exact ⟨Tryd.f71, Tryd.func71, irOk71, by kernel_rfl⟩
  · cases h; exact ⟨Tryd.f73, Tryd.func73, irOk73, by kernel_rfl⟩
  · cases h; exact ⟨Tryd.f74, Tryd.func74, irOk74, by kernel_rfl⟩
  · cases h; exact ⟨Tryd.f75, Tryd.func75, irOk75, by kernel_rfl⟩
  · cases h; exact ⟨Tryd.f76, Tryd.func76, irOk76, by kernel_rfl⟩
  · cases h; exact ⟨Tryd.f77, Tryd.func77, irOk77, by kernel_rfl⟩
  · cases h; exact ⟨Tryd.f78, Tryd.func78, irOk78, by kernel_rfl⟩
  · cases h; exact ⟨Tryd.f79, Tryd.func79, irOk79, by kernel_rfl⟩
  · cases h; exact ⟨Tryd.f80, Tryd.func80, irOk80, by kernel_rfl⟩
  · cases h; exact ⟨Tryd.f83, Tryd.func83, irOk83, by kernel_rfl⟩
  · cases h; exact ⟨Tryd.f88, Tryd.func88, irOk88, by kernel_rfl⟩
  · cases h; exact ⟨Tryd.f91, Tryd.func91, irOk91, by kernel_rfl⟩
  · cases h; exact ⟨Tryd.f92, Tryd.func92, irOk92, by kernel_rfl⟩
  · cases h; exact ⟨Tryd.f93, Tryd.func93, irOk93, by kernel_rfl⟩
  · cases h; exact ⟨Tryd.f99, Tryd.func99, irOk99, by kernel_rfl⟩
  · cases h; exact ⟨Tryd.f100, Tryd.func100, irOk100, by kernel_rfl⟩
  · cases h; exact ⟨Tryd.f101, Tryd.func101, irOk101, by kernel_rfl⟩
  · cases h; exact ⟨Tryd.f102, Tryd.func102, irOk102, by kernel_rfl⟩
  · cases h; exact ⟨Tryd.f103, Tryd.func103, irOk103, by kernel_rfl⟩
  · cases h; exact ⟨Tryd.f104, Tryd.func104, irOk104, by kernel_rfl⟩
  · cases h; exact ⟨Tryd.f105, Tryd.func105, irOk105, by kernel_rfl⟩
  · cases h; exact ⟨Tryd.f106, Tryd.func106, irOk106, by kernel_rfl⟩
  · cases h; exact ⟨Tryd.f107, Tryd.func107, irOk107, by kernel_rfl⟩
  · cases h; exact ⟨Tryd.f108, Tryd.func108, irOk108, by kernel_rfl⟩
  · cases h; exact ⟨Tryd.f109, Tryd.func109, irOk109, by kernel_rfl⟩
  · cases h; exact ⟨Tryd.f115, Tryd.func115, irOk115, by kernel_rfl⟩
  · cases h; exact ⟨Tryd.f116, Tryd.func116, irOk116, by kernel_rfl⟩
  · cases h; exact ⟨Tryd.f119, Tryd.func119, irOk119, by kernel_rfl⟩
  · cases h; exact ⟨Tryd.f120, Tryd.func120, irOk120, by kernel_rfl⟩
  · cases h; exact ⟨Tryd.f121, Tryd.func121, irOk121, by kernel_rfl⟩
  · cases h; exact ⟨Tryd.f122, Tryd.func122, irOk122, by kernel_rfl⟩
  · cases h; exact ⟨Tryd.f124, Tryd.func124, irOk124, by kernel_rfl⟩
  · cases h; exact ⟨Tryd.f128, Tryd.func128, irOk128, by kernel_rfl⟩
  · cases h; exact ⟨Tryd.f129, Tryd.func129, irOk129, by kernel_rfl⟩
  · cases h; exact ⟨Tryd.f130, Tryd.func130, irOk130, by kernel_rfl⟩
  · cases h; exact ⟨Tryd.f134, Tryd.func134, irOk134, by kernel_rfl⟩
  · cases h
end Go.Proofs.YtcnkhkmapgbodaaDoor.W
end
