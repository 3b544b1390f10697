/-
Texts of our own, put together: Ir.
-/
import Derived.Test.YtbnmhbmhafbmiaaGreatDoorK2
import Derived.Test.YtbnmhbmhafbmiaaGreatDoorProg
import Derived.KernelRfl
section
namespace Go.Proofs.YtbnmhbmhafbmiaaGreatDoor.W
set_option linter.unusedVariables false
open Go.B
noncomputable def sq (t : Nat) : Bool:=!Tryz.prog.stoodInHeld t && !Tryz.prog.eqGuardType Tryz.prog.depth t
theorem sqOk (t : Nat) (h : sq t = true) : Tryz.prog.stoodInHeld t = false∧Tryz.prog.eqGuardType Tryz.prog.depth t = false:=by
  simpa [sq] using h
noncomputable abbrev irC (f : Func) : Option BFun:=compFun Tryz.prog.underlying Tryz.prog.info? sq f
abbrev oP (d : Nat) (o : BOp) : BOper:=⟨some d,o,none,[]⟩
abbrev oS (o : BOp) : BOper:=⟨none,o,none,[]⟩
abbrev oG (d g : Nat) (b : Bool) (o : BOp) : BOper:=⟨some d,o,some (g,b),[]⟩
abbrev rS (l : List BOper) (c : BCode) : BCode:=.seq (.region l) c
abbrev jM (d a : Nat) : BOper:=oP d (.mov (.t a))
abbrev jI (d : Nat) (k : Int) : BOper:=oP d (.mov (.c (.int .i64 k)))
abbrev jL (d a : Nat) : BOper:=oP d (.load none none (.t a))
abbrev jQ (d a : Nat) : BOper:=oP d (.load none (some 4) (.t a))
abbrev jE (d n a : Nat) : BOper:=oP d (.ext n (.t a))
abbrev jC (d k : Nat) (xs : List Opd) : BOper:=oP d (.call (.c (.fn k [])) xs)
abbrev jA (d n a : Nat) : BOper:=oP d (.lea n (.t a))
abbrev jZ (d n : Nat) : BOper:=oP d (.new n [.int .i64 0,.int .i64 0,.nils,.nils])
abbrev jW (n a b : Nat) : BOper:=oS (.store none n (.t a) (.t b))
abbrev jY (d : Nat) : BOper:=oP d (.build [.int .i64 0,.int .i64 0,.nils,.nils] [])
abbrev jX (d n a b : Nat) : BOper:=oP d (.idx n (.t a) (.t b))
abbrev jJ (d a : Nat) : BOper:=oP d (.not (.t a))
abbrev jB (d : Nat) (o : BinOp) (a b : Nat) : BOper:=oP d (.bin o (.t a) (.t b))
abbrev jD (d : Nat) (o : BinOp) (a : Nat) (k : Int) : BOper:=oP d (.bin o (.t a) (.c (.int .i64 k)))
abbrev jK (d n a : Nat) : BOper:=oP d (.len n (.t a))
abbrev jT (d n a : Nat) : BOper:=oP d (.box n (.t a))
abbrev jN (d a : Nat) : BOper:=oP d (.nilck (.t a))
abbrev jF (d : Nat) (b : Bool) : BOper:=oP d (.mov (.c (.bool b)))
abbrev jP (d a b : Nat) (u : Bool) : BOper:=oP d (.pick (.t a) (.c (.bool u)) (.t b))
abbrev kE (a n : Nat) : BCode:=.cond (.t a) .skip (.exit n)
abbrev cI (k : Int) : Opd:=.c (.int .i64 k)
def ir8 : BFun:=⟨[.tmp 2],rS [jT 1 49 0,jF 2 false] (rS [jI 3 1048576] (rS [jQ 9 1,jM 10 3,jC 11 27 [.t 9,.t 10],jM 3 11] (.seq (rS [jM 12 3,jD 13 .lss 12 0] (.cond (.t 13) (rS [jF 2 true] .ret) .skip)) (rS [jQ 15 1,jC 16 29 [.t 15],jC 17 36 [.t 16],jM 14 17,jE 18 0 14,jE 19 1 14,jM
 4 18,jM 5 19] (rS [jQ 20 1,jC 21 29 [.t 20],jZ 6 25,jW 4 6 21] (rS [jQ 23 6,jC 24 37 [.t 23],jM 22 24,jE 25 0 22,jE 26 1 22,jM 7 25,jM 8 26] (.seq (rS [jM 27 7,jM 28 4,jB 29 .neq 27 28,jM 30 29,oG 31 30 false (.mov (.t 8)),oG 32 30 false (.mov (.t 5)),oG 33 30 false (.bin .neq (.t
 31) (.t 32)),jP 34 30 33 true] (.cond (.t 34) (rS [jF 2 false] .ret) .skip)) (.seq (rS [oP 35 (.load (some 25) (some 4) (.t 6)),jQ 36 1,⟨some 37,.call (.c (.fn 29 [])) [.t 36],none,[25]⟩,jC 38 31 [.t 35,.t 37],jJ 39 38] (.cond (.t 39) (rS [jF 2 false] .ret) .skip)) (rS [jF 2 true]
 .ret)))))))))⟩
theorem irOk8 : irC Tryz.f8 = some ir8:=by kernel_rfl
def ir25 : BFun:=⟨[.cell 0 (some 4)],rS [jZ 0 25] (rS [oP 6 (.call (.c (.fn 66 [])) [cI 1,cI 1,cI 0,.c (.fn 67 []),.c (.fn 68 [])]),jM 5 6,jE 7 0 5,jE 8 1 5,jZ 1 77,jW 4 1 7,jM 2 8] (rS [jQ 10 1,jC 11 69 [.t 10],jM 9 11,jE 12 0 9,jE 13 1 9,jZ 3 25,jW 4 3 12,jM 4 13] (rS [jQ 14
 3,jW 4 0 14] .ret)))⟩
theorem irOk25 : irC Tryz.f25 = some ir25:=by kernel_rfl
def ir27 : BFun:=⟨[.tmp 4],rS [jT 2 49 0,jI 4 0] (rS [jA 5 2 2,jL 6 5,jM 7 1,jC 8 71 [.t 6,.t 7],jM 1 8] (.seq (rS [jM 9 1,jD 10 .lss 9 0] (.cond (.t 10) (rS [jI 4 (-1)] .ret) .skip)) (rS [jA 11 3 2,jL 12 11,jM 13 1,jC 14 72 [.t 12,.t 13],jM 1 14] (.seq (rS [jM 15 1,jD 16 .lss 15 0]
 (.cond (.t 16) (rS [jI 4 (-1)] .ret) .skip)) (rS [jM 17 1,jM 4 17] .ret)))))⟩
theorem irOk27 : irC Tryz.f27 = some ir27:=by kernel_rfl
def ir29 : BFun:=⟨[.cell 2 (some 4)],rS [jT 1 49 0,jZ 2 25] (rS [jZ 3 25] (rS [jA 4 0 1,jL 5 4,jA 6 0 3,jW 1 6 5] (rS [jA 7 1 1,jL 8 7,jA 9 1 3,jW 1 9 8] (rS [jA 10 2 1,jL 11 10,jC 12 75 [.t 11],jA 13 2 3,jW 1 13 12] (rS [jA 14 3 1,jL 15 14,jC 16 76 [.t 15],jA 17 3 3,jW 1 17 16]
 (rS [jQ 18 3,jW 4 2 18] .ret))))))⟩
theorem irOk29 : irC Tryz.f29 = some ir29:=by kernel_rfl
def ir31 : BFun:=⟨[.tmp 4],rS [jT 2 25 0,jT 3 25 1,jF 4 false] (.seq (rS [jA 5 0 2,jL 6 5,jA 7 0 3,jL 8 7,jB 9 .neq 6 8] (.cond (.t 9) (rS [jF 4 false] .ret) .skip)) (.seq (rS [jA 10 1 2,jL 11 10,jA 12 1 3,jL 13 12,jB 14 .neq 11 13] (.cond (.t 14) (rS [jF 4 false] .ret) .skip)) (.seq
 (rS [jA 15 2 2,jL 16 15,jA 17 2 3,jL 18 17,jC 19 79 [.t 16,.t 18],jJ 20 19] (.cond (.t 20) (rS [jF 4 false] .ret) .skip)) (.seq (rS [jA 21 3 2,jL 22 21,jA 23 3 3,jL 24 23,jC 25 80 [.t 22,.t 24],jJ 26 25] (.cond (.t 26) (rS [jF 4 false] .ret) .skip)) (rS [jF 4 true] .ret)))))⟩
theorem irOk31 : irC Tryz.f31 = some ir31:=by kernel_rfl
def ir36 : BFun:=⟨[.tmp 2,.tmp 3],rS [jT 1 25 0,jI 2 0,jI 3 0] (.seq (rS [jC 5 73 [.t 1],jM 4 5] (rS [jM 6 4,jD 7 .neq 6 0] (.cond (.t 7) (rS [jM 8 4,jI 2 0,jM 3 8] .ret) .skip))) (rS [jC 9 90 [.t 1,.c (.bool true)],jE 10 0 9,jE 11 1 9,jM 2 10,jM 3 11] .ret))⟩
theorem irOk36 : irC Tryz.f36 = some ir36:=by kernel_rfl
def ir37 : BFun:=⟨[.tmp 2,.tmp 3],rS [jT 1 25 0,jI 2 0,jI 3 0] (.seq (rS [jQ 5 1,oP 6 (.mk 25 1 [.int .i64 0,.int .i64 0,.nils,.nils] [(0,4,.t 5)]),jC 7 77 [.t 6],jM 4 7] (rS [jM 8 4,jD 9 .neq 8 0] (.cond (.t 9) (rS [jM 10 4,jI 2 0,jM 3 10] .ret) .skip))) (rS [jQ 11 1,jC 12 91 [.t
 11],jE 13 0 12,jE 14 1 12,jM 2 13,jM 3 14] .ret))⟩
theorem irOk37 : irC Tryz.f37 = some ir37:=by kernel_rfl
def ir45 : BFun:=⟨[.tmp 6],rS [jF 6 false] (rS [jM 7 1,jM 8 0,jB 9 .leq 7 8,jM 10 9,oG 11 10 true (.mov (.t 0)),oG 12 10 true (.mov (.t 2)),oG 13 10 true (.bin .leq (.t 11) (.t 12)),oP 14 (.pick (.t 10) (.t 13) (.c (.bool false))),jM 6 14] .ret)⟩
theorem irOk45 : irC Tryz.f45 = some ir45:=by kernel_rfl
def ir46 : BFun:=⟨[.tmp 2],rS [jF 2 false] (rS [jM 3 0,jC 4 45 [.t 3,cI 1,cI 3],jM 2 4] .ret)⟩
theorem irOk46 : irC Tryz.f46 = some ir46:=by kernel_rfl
def ir48 : BFun:=⟨[.tmp 6],rS [jF 6 false] (rS [jM 7 0,jM 8 1,jB 9 .geq 7 8,jM 10 9,oG 11 10 true (.mov (.t 0)),oG 12 10 true (.mov (.t 2)),oG 13 10 true (.bin .leq (.t 11) (.t 12)),oP 14 (.pick (.t 10) (.t 13) (.c (.bool false))),jM 6 14] .ret)⟩
theorem irOk48 : irC Tryz.f48 = some ir48:=by kernel_rfl
def ir51 : BFun:=⟨[.cell 0 (some 4)],rS [jZ 0 25] (rS [oP 1 (.mk 4 2 [.bool false,.bool false] [(0,1,.c (.bool true)),(1,1,.c (.bool false))]),oP 2 (.mk 2 2 [.int .i64 0,.int .i64 0] [(0,1,cI 1),(1,1,cI 0)]),oP 3 (.mk 2 2 [.int .i64 0,.int .i64 0] [(0,1,cI 1),(1,1,cI 0)]),oP
 4 (.mk 36 2 [.nils,.nils] [(0,1,.t 2),(1,1,.t 3)]),oP 5 (.build [.int .i64 0,.int .i64 0,.nils,.nils] [(0,1,cI 1),(2,1,.t 1),(3,1,.t 4)]),jT 6 25 5,jC 7 102 [.t 6],jW 4 0 7] .ret)⟩
theorem irOk51 : irC Tryz.f51 = some ir51:=by kernel_rfl
def ir56 : BFun:=⟨[.tmp 2],rS [jF 2 false] (rS [jM 3 0,jC 4 45 [.t 3,cI 0,cI 1000000000],jM 2 4] .ret)⟩
theorem irOk56 : irC Tryz.f56 = some ir56:=by kernel_rfl
def ir58 : BFun:=⟨[.tmp 2],rS [jT 1 25 0,jF 2 false] (rS [jA 8 2 1,jL 9 8,jK 10 1 9,jM 3 10] (.seq (rS [jA 11 0 1,jL 12 11,jC 13 46 [.t 12],jJ 14 13,jM 15 14,oG 16 15 false (.mov (.t 3)),oG 17 15 false (.call (.c (.fn 45 [])) [.t 16,cI 1,cI 150]),oG 18 15 false (.not (.t 17)),jP 19
 15 18 true,jM 20 19,oG 21 20 false (.lea 3 (.t 1)),oG 22 20 false (.load none none (.t 21)),oG 23 20 false (.len 1 (.t 22)),oG 24 20 false (.mov (.t 3)),oG 25 20 false (.bin .neq (.t 23) (.t 24)),jP 26 20 25 true,jM 27 26,oG 28 27 false (.lea 1 (.t 1)),oG 29 27 false (.load none none (.t
 28)),oG 30 27 false (.mov (.t 3)),oG 31 27 false (.bin .sub (.t 30) (cI 1)),oG 32 27 false (.call (.c (.fn 45 [])) [.t 29,cI 0,.t 31]),oG 33 27 false (.not (.t 32)),jP 34 27 33 true] (.cond (.t 34) (rS [jF 2 false] .ret) .skip)) (.seq (rS [jA 35 3 1,jL 36 35,jK 37 1 36,jI 38 0] (.block 0
 (.loop (rS [jB 39 .lss 38 37] (.seq (kE 39 0) (.seq (.block 1 (rS [jX 40 1 36 38,jL 41 40,jM 5 41] (.seq (rS [jM 42 5,jK 43 1 42,jA 44 0 1,jL 45 44,jC 46 94 [.t 45],jB 47 .neq 43 46] (.cond (.t 47) (rS [jF 2 false] .ret) .skip)) (rS [jM 48 5,jK 49 1 48,jI 50 0] (.block 2 (.loop (rS [jB 51
 .lss 50 49] (.seq (kE 51 2) (.seq (.block 3 (rS [jX 52 1 48 50,jL 53 52,jM 7 53] (rS [jM 54 7,jM 55 3,jD 56 .sub 55 1,jC 57 45 [.t 54,cI 0,.t 56],jJ 58 57] (.cond (.t 58) (rS [jF 2 false] .ret) .skip)))) (.region [jD 59 .add 50 1,jM 50 59])))))))))) (.region [jD 60 .add 38 1,jM 38
 60]))))))) (rS [jF 2 true] .ret))))⟩
theorem irOk58 : irC Tryz.f58 = some ir58:=by kernel_rfl
def ir60 : BFun:=⟨[.cell 2 (some 4)],rS [jT 1 25 0,jZ 2 77] (rS [jA 9 0 1,oP 10 (.load (some 25) none (.t 9)),jA 11 1 1,oP 12 (.load (some 25) none (.t 11)),jA 13 2 1,jL 14 13,⟨some 15,.call (.c (.fn 106 [])) [.t 14],none,[25]⟩,oP 16 (.build [.int .i64 0,.int .i64 0,.nils,.nils]
 [(0,1,.t 10),(1,1,.t 12),(2,1,.t 15)]),jZ 3 77,jW 4 3 16] (.seq (rS [jA 17 3 1,jL 18 17,jK 19 1 18,jI 20 0] (.block 0 (.loop (rS [jB 21 .lss 20 19] (.seq (kE 21 0) (.seq (.block 1 (rS [jX 22 1 18 20,jL 23 22,jM 5 23] (rS [oP 6 (.mov (.c .nils))] (.seq (rS [jM 24 5,jK 25 1 24,jI 26
 0] (.block 2 (.loop (rS [jB 27 .lss 26 25] (.seq (kE 27 2) (.seq (.block 3 (rS [jX 28 1 24 26,jL 29 28,jM 8 29] (.region [jM 30 6,jM 31 8,oP 32 (.mk 3 1 [.int .i64 0] [(0,1,.t 31)]),oP 33 (.app 3 1 8 (.t 30) (.t 32)),jM 6 33]))) (.region [jD 34 .add 26 1,jM 26 34]))))))) (.region [jA 35 3
 3,jL 36 35,jM 37 6,oP 38 (.mk 80 1 [.nils] [(0,1,.t 37)]),oP 39 (.app 80 1 24 (.t 36) (.t 38)),jA 40 3 3,jW 1 40 39]))))) (.region [jD 41 .add 20 1,jM 20 41]))))))) (rS [jQ 42 3,jW 4 2 42] .ret)))⟩
theorem irOk60 : irC Tryz.f60 = some ir60:=by kernel_rfl
def ir65 : BFun:=⟨[.tmp 2],rS [jI 2 0] (rS [jI 3 0] (.seq (rS [jM 5 0,jK 6 0 5,jD 7 .sub 6 1,jM 4 7] (.block 0 (.loop (.seq (rS [jM 8 4,jD 9 .geq 8 0] (kE 9 0)) (.seq (.block 1 (.region [jM 12 3,oP 13 (.bin .mul (cI 2) (.t 12)),jM 14 0,jM 15 4,oP 16 (.idxs (.t 14) (.t 15)),oP 17 (.bin
 .sub (.t 16) (.c (.int .u8 97))),oP 18 (.conv .i64 (.t 17)),jB 19 .add 13 18,jM 3 19])) (.region [jM 10 4,jD 11 .sub 10 1,jM 4 11])))))) (rS [jM 20 3,jM 2 20] .ret)))⟩
theorem irOk65 : irC Tryz.f65 = some ir65:=by kernel_rfl
def ir66 : BFun:=⟨[.cell 10 (some 4),.tmp 11],rS [jZ 10 77,jF 11 false] (rS [jM 22 0,oP 23 (.build [.int .i64 0,.int .i64 0,.nils,.nils] [(0,1,.t 22)]),jZ 12 77,jW 4 12 23] (rS [oP 24 .mkmap,jM 25 1,oS (.mset 0 (.t 24) (.t 25) (cI 0)),jM 26 24,jM 13 26] (rS [jM 27 1,oP 28 (.mk 3 1
 [.int .i64 0] [(0,1,.t 27)]),jM 14 28] (.seq (rS [jI 15 0] (.block 0 (.loop (.seq (rS [jM 29 15,jM 30 14,jK 31 1 30,jB 32 .lss 29 31] (kE 32 0)) (.seq (.block 1 (rS [jM 35 14,jM 36 15,jX 37 1 35 36,jL 38 37,jM 16 38] (rS [oP 17 (.mov (.c .nils))] (.seq (rS [jI 18 0] (.block 2 (.loop
 (.seq (rS [jM 39 18,jM 40 0,jC 41 94 [.t 40],jB 42 .lss 39 41] (kE 42 2)) (.seq (.block 3 (rS [jM 45 4,jM 46 16,jM 47 18,oP 48 (.call (.t 45) [.t 46,.t 47]),jM 19 48] (rS [jM 50 13,jM 51 19,oP 52 (.look 0 true (.int .i64 0) (.t 50) (.t 51)),jM 49 52,jE 53 0 49,jE 54 1 49,jM 20 53,jM
 21 54] (.seq (rS [jM 55 21,jJ 56 55] (.cond (.t 56) (rS [jM 57 14,jK 58 1 57,jM 20 58] (rS [jM 59 13,jM 60 19,jM 61 20,oS (.mset 0 (.t 59) (.t 60) (.t 61))] (rS [jM 62 14,jM 63 19,oP 64 (.mk 3 1 [.int .i64 0] [(0,1,.t 63)]),oP 65 (.app 3 1 8 (.t 62) (.t 64)),jM 14 65] (rS [jM 66 2,jD
 67 .gtr 66 0,jM 68 67,oG 69 68 true (.mov (.t 14)),oG 70 68 true (.len 1 (.t 69)),oG 71 68 true (.mov (.t 2)),oG 72 68 true (.bin .gtr (.t 70) (.t 71)),oP 73 (.pick (.t 68) (.t 72) (.c (.bool false)))] (.cond (.t 73) (rS [jY 74,jW 4 10 74,jF 11 false] .ret) .skip))))) .skip)) (.region [jM
 75 17,jM 76 20,oP 77 (.mk 3 1 [.int .i64 0] [(0,1,.t 76)]),oP 78 (.app 3 1 8 (.t 75) (.t 77)),jM 17 78]))))) (.region [jM 43 18,jD 44 .add 43 1,jM 18 44])))))) (rS [jA 79 2 12,oP 80 (.load (some 77) none (.t 79)),jM 81 3,jM 82 16,⟨some 83,.call (.t 81) [.t 82],none,[77]⟩,oP 84 (.mk
 4 1 [.bool false] [(0,1,.t 83)]),oP 85 (.app 4 1 1 (.t 80) (.t 84)),jA 86 2 12,jW 1 86 85] (.region [jA 87 3 12,jL 88 87,jM 89 17,oP 90 (.mk 80 1 [.nils] [(0,1,.t 89)]),oP 91 (.app 80 1 24 (.t 88) (.t 90)),jA 92 3 12,jW 1 92 91])))))) (.region [jM 33 15,jD 34 .add 33 1,jM 15
 34])))))) (rS [jQ 93 12,jW 4 10 93,jF 11 true] .ret)))))⟩
theorem irOk66 : irC Tryz.f66 = some ir66:=by kernel_rfl
def ir67 : BFun:=⟨[.tmp 2],rS [jF 2 false] (rS [jM 3 0,jD 4 .eql 3 1,jM 2 4] .ret)⟩
theorem irOk67 : irC Tryz.f67 = some ir67:=by kernel_rfl
def ir68 : BFun:=⟨[.tmp 4],rS [jI 4 0] (rS [jM 5 1,jM 4 5] .ret)⟩
theorem irOk68 : irC Tryz.f68 = some ir68:=by kernel_rfl
def ir69 : BFun:=⟨[.cell 2 (some 4),.tmp 3],rS [jT 1 77 0,jZ 2 25,jI 3 0] (rS [jQ 4 1,jC 5 110 [.t 4],jC 6 111 [.t 5],jE 7 0 6,jE 8 1 6,jW 4 2 7,jM 3 8] .ret)⟩
theorem irOk69 : irC Tryz.f69 = some ir69:=by kernel_rfl
def ir71 : BFun:=⟨[.tmp 4],rS [jI 4 0] (rS [jM 5 1,jM 6 0,jK 7 1 6,jB 8 .sub 5 7,jM 1 8] (.seq (rS [jM 9 1,jD 10 .lss 9 0] (.cond (.t 10) (rS [jI 4 (-1)] .ret) .skip)) (rS [jM 11 1,jM 4 11] .ret)))⟩
theorem irOk71 : irC Tryz.f71 = some ir71:=by kernel_rfl
def ir72 : BFun:=⟨[.tmp 4],rS [jI 4 0] (rS [jM 6 1,jM 7 0,jK 8 1 7,jB 9 .sub 6 8,jM 1 9] (.seq (rS [jM 10 1,jD 11 .lss 10 0] (.cond (.t 11) (rS [jI 4 (-1)] .ret) .skip)) (.seq (rS [jI 5 0] (.block 0 (.loop (.seq (rS [jM 12 5,jM 13 0,jK 14 1 13,jB 15 .lss 12 14] (kE 15 0)) (.seq (.block 1
 (rS [jM 18 0,jM 19 5,jX 20 1 18 19,jL 21 20,jM 22 1,jC 23 115 [.t 21,.t 22],jM 1 23] (rS [jM 24 1,jD 25 .lss 24 0] (.cond (.t 25) (rS [jI 4 (-1)] .ret) .skip)))) (.region [jM 16 5,jD 17 .add 16 1,jM 5 17])))))) (rS [jM 26 1,jM 4 26] .ret))))⟩
theorem irOk72 : irC Tryz.f72 = some ir72:=by kernel_rfl
def ir73 : BFun:=⟨[.tmp 2],rS [jI 2 0] (.seq (rS [jM 3 0,jC 4 116 [.t 3],jJ 5 4] (.cond (.t 5) (rS [jI 2 1] .ret) .skip)) (.seq (rS [jM 6 0,jC 7 117 [.t 6],jJ 8 7] (.cond (.t 8) (rS [jI 2 4] .ret) .skip)) (rS [jI 2 0] .ret)))⟩
theorem irOk73 : irC Tryz.f73 = some ir73:=by kernel_rfl
def ir75 : BFun:=⟨[.tmp 2],rS [oP 2 (.mov (.c .nils))] (rS [jM 5 0,jK 6 1 5,oP 7 (.mksl 4 1 [.bool false] (.t 6) (.t 6)),jM 3 7] (.seq (rS [jI 4 0] (.block 0 (.loop (.seq (rS [jM 8 4,jM 9 0,jK 10 1 9,jB 11 .lss 8 10] (kE 11 0)) (.seq (.block 1 (.region [jM 14 3,jM 15 4,jM 16 0,jM 17 4,
 jX 18 1 16 17,jL 19 18,jX 20 1 14 15,jW 1 20 19])) (.region [jM 12 4,jD 13 .add 12 1,jM 4 13])))))) (rS [jM 21 3,jM 2 21] .ret)))⟩
theorem irOk75 : irC Tryz.f75 = some ir75:=by kernel_rfl
def ir76 : BFun:=⟨[.tmp 2],rS [oP 2 (.mov (.c .nils))] (rS [jM 5 0,jK 6 1 5,oP 7 (.mksl 36 24 [.nils] (.t 6) (.t 6)),jM 3 7] (.seq (rS [jI 4 0] (.block 0 (.loop (.seq (rS [jM 8 4,jM 9 0,jK 10 1 9,jB 11 .lss 8 10] (kE 11 0)) (.seq (.block 1 (.region [jM 14 3,jM 15 4,jM 16 0,jM 17 4,jX
 18 1 16 17,jL 19 18,jC 20 122 [.t 19],jX 21 1 14 15,jW 1 21 20])) (.region [jM 12 4,jD 13 .add 12 1,jM 4 13])))))) (rS [jM 22 3,jM 2 22] .ret)))⟩
theorem irOk76 : irC Tryz.f76 = some ir76:=by kernel_rfl
def ir77 : BFun:=⟨[.tmp 2],rS [jI 2 0] (.seq (rS [jM 7 0,jK 8 1 7,jI 9 0] (.block 0 (.loop (rS [jB 10 .lss 9 8] (.seq (kE 10 0) (.seq (.block 1 (rS [jX 11 4 7 9,jQ 12 11,jZ 4 25,jW 4 4 12] (rS [jQ 13 4,jC 14 58 [.t 13],jJ 15 14] (.cond (.t 15) (rS [jI 2 1] .ret) .skip)))) (.region [jD 16
 .add 9 1,jM 9 16]))))))) (.seq (rS [jM 17 0,jK 18 1 17,jI 19 0] (.block 2 (.loop (rS [jB 20 .lss 19 18] (.seq (kE 20 2) (.seq (.block 3 (rS [jX 21 4 17 19,jQ 22 21,jZ 6 25,jW 4 6 22] (rS [jQ 23 6,jC 24 123 [.t 23],jJ 25 24] (.cond (.t 25) (rS [jI 2 4] .ret) .skip)))) (.region [jD 26 .add
 19 1,jM 19 26]))))))) (rS [jI 2 0] .ret)))⟩
theorem irOk77 : irC Tryz.f77 = some ir77:=by kernel_rfl
def ir79 : BFun:=⟨[.tmp 4],rS [jF 4 false] (.seq (rS [jM 6 0,jK 7 1 6,jM 8 1,jK 9 1 8,jB 10 .neq 7 9] (.cond (.t 10) (rS [jF 4 false] .ret) .skip)) (.seq (rS [jI 5 0] (.block 0 (.loop (.seq (rS [jM 11 5,jM 12 0,jK 13 1 12,jB 14 .lss 11 13] (kE 14 0)) (.seq (.block 1 (rS [jM 17 0,jM 18 5,
 jX 19 1 17 18,jL 20 19,jM 21 1,jM 22 5,jX 23 1 21 22,jL 24 23,oP 25 (.beq true (.t 20) (.t 24))] (.cond (.t 25) (rS [jF 4 false] .ret) .skip))) (.region [jM 15 5,jD 16 .add 15 1,jM 5 16])))))) (rS [jF 4 true] .ret)))⟩
theorem irOk79 : irC Tryz.f79 = some ir79:=by kernel_rfl
def ir80 : BFun:=⟨[.tmp 4],rS [jF 4 false] (.seq (rS [jM 6 0,jK 7 1 6,jM 8 1,jK 9 1 8,jB 10 .neq 7 9] (.cond (.t 10) (rS [jF 4 false] .ret) .skip)) (.seq (rS [jI 5 0] (.block 0 (.loop (.seq (rS [jM 11 5,jM 12 0,jK 13 1 12,jB 14 .lss 11 13] (kE 14 0)) (.seq (.block 1 (rS [jM 17 0,jM 18 5,
 jX 19 1 17 18,jL 20 19,jM 21 1,jM 22 5,jX 23 1 21 22,jL 24 23,jC 25 130 [.t 20,.t 24],jJ 26 25] (.cond (.t 26) (rS [jF 4 false] .ret) .skip))) (.region [jM 15 5,jD 16 .add 15 1,jM 5 16])))))) (rS [jF 4 true] .ret)))⟩
theorem irOk80 : irC Tryz.f80 = some ir80:=by kernel_rfl
def ir90 : BFun:=⟨[.tmp 4,.tmp 5],rS [jI 4 0,jI 5 0] (rS [jM 12 0,jC 13 102 [.t 12],jZ 6 25,jW 4 6 13] (.seq (rS [jC 15 135 [.t 6],jM 14 15,jE 16 0 14,jE 17 1 14,jM 7 16,jM 8 17] (rS [jM 18 8,jJ 19 18] (.cond (.t 19) (rS [jI 4 0,jI 5 6] .ret) .skip))) (.seq (rS [jM 20 1,jM 21 20,oG
 22 21 true (.call (.c (.fn 140 [])) [.t 6]),oG 23 21 true (.not (.t 22)),oP 24 (.pick (.t 21) (.t 23) (.c (.bool false)))] (.cond (.t 24) (rS [jI 4 0,jI 5 4] .ret) .skip)) (rS [jM 26 1,jC 27 141 [.t 6,.t 26],jM 25 27,jE 28 0 25,jE 29 1 25,jM 9 28,jM 10 29] (.seq (rS [jM 30 10,jD 31 .neq
 30 0] (.cond (.t 31) (rS [jM 32 10,jI 4 0,jM 5 32] .ret) .skip)) (rS [jM 33 9,jC 34 142 [.t 33],jM 11 34] (.seq (rS [jM 35 11,jD 36 .gtr 35 1000000000] (.cond (.t 36) (rS [jI 4 0,jI 5 2] .ret) .skip)) (rS [jM 37 11,jM 4 37,jI 5 0] .ret))))))))⟩
theorem irOk90 : irC Tryz.f90 = some ir90:=by kernel_rfl
def ir91 : BFun:=⟨[.tmp 2,.tmp 3],rS [jT 1 25 0,jI 2 0,jI 3 0] (rS [jQ 13 1,jC 14 113 [.t 13],jZ 4 77,jW 4 4 14] (.seq (rS [jQ 15 4,jC 16 139 [.t 15]] (.cond (.t 16) (rS [jI 2 0,jI 3 6] .ret) .skip)) (.seq (rS [jQ 18 4,jC 19 143 [.t 18],jM 17 19,jE 20 0 17,jE 21 1 17,jM 5 20,jM 6
 21] (rS [jM 22 6,jJ 23 22] (.cond (.t 23) (rS [jI 2 0,jI 3 4] .ret) .skip))) (rS [jI 7 0] (rS [jA 24 1 4,jL 25 24,oP 26 (.mk 3 1 [.int .i64 0] [(0,1,.t 25)]),jM 8 26] (.seq (rS [jI 9 0] (.block 0 (.loop (.seq (rS [jM 27 9,jA 28 2 4,jL 29 28,jK 30 1 29,jB 31 .leq 27 30] (kE 31 0)) (.seq
 (.block 1 (rS [oP 10 (.mov (.c .nils))] (.seq (rS [jM 34 8,jK 35 1 34,jI 36 0] (.block 2 (.loop (rS [jB 37 .lss 36 35] (.seq (kE 37 2) (.seq (.block 3 (rS [jX 38 1 34 36,jL 39 38,jM 12 39] (.seq (rS [jA 40 2 4,jL 41 40,jM 42 12,jX 43 1 41 42,jL 44 43] (.cond (.t 44) (.region [jM 45 9,jM 7
 45]) .skip)) (.region [jM 46 10,jA 47 3 4,jL 48 47,jM 49 12,jX 50 1 48 49,jL 51 50,oP 52 (.idx 1 (.t 51) (cI 0)),jL 53 52,jA 54 3 4,jL 55 54,jM 56 12,jX 57 1 55 56,jL 58 57,oP 59 (.idx 1 (.t 58) (cI 1)),jL 60 59,oP 61 (.mk 3 2 [.int .i64 0,.int .i64 0] [(0,1,.t 53),(1,1,.t
 60)]),oP 62 (.app 3 1 8 (.t 46) (.t 61)),jM 10 62])))) (.region [jD 63 .add 36 1,jM 36 63]))))))) (rS [jM 64 10,jC 65 144 [.t 64]] (.region [jM 66 10,jC 67 145 [.t 66],jM 8 67]))))) (.region [jM 32 9,jD 33 .add 32 1,jM 9 33])))))) (rS [jQ 68 4,jM 69 7,jC 70 147 [.t 68,.t 69,.c (.bool
 true)],jC 71 146 [.t 70],jE 72 0 71,jE 73 1 71,jM 2 72,jM 3 73] .ret)))))))⟩
theorem irOk91 : irC Tryz.f91 = some ir91:=by kernel_rfl
def ir94 : BFun:=⟨[.tmp 2],rS [jI 2 0] (rS [jM 3 0,jC 4 148 [.t 3],jD 5 .sub 4 1,jM 2 5] .ret)⟩
theorem irOk94 : irC Tryz.f94 = some ir94:=by kernel_rfl
def ir95 : BFun:=⟨[.tmp 4],rS [oP 4 (.mov (.c .nils))] (rS [oP 5 (.mov (.c .nils))] (.seq (.block 0 (.loop (.seq (rS [jM 6 0,jD 7 .gtr 6 0] (kE 7 0)) (.seq (.block 1 (rS [jM 10 5,jM 11 1,jD 12 .rem 11 3,oP 13 (.mk 3 1 [.int .i64 0] [(0,1,.t 12)]),oP 14 (.app 3 1 8 (.t 10) (.t 13)),jM 5
 14] (.region [jM 15 1,jD 16 .quo 15 3,jM 1 16]))) (.region [jM 8 0,jD 9 .sub 8 1,jM 0 9]))))) (rS [jM 17 5,jM 4 17] .ret)))⟩
theorem irOk95 : irC Tryz.f95 = some ir95:=by kernel_rfl
def ir100 : BFun:=⟨[.tmp 2],rS [jI 2 0] (rS [jM 3 0,jC 4 150 [.t 3],jD 5 .sub 4 1,jM 2 5] .ret)⟩
theorem irOk100 : irC Tryz.f100 = some ir100:=by kernel_rfl
def ir102 : BFun:=⟨[.cell 2 (some 4)],rS [jZ 2 25] (rS [jM 17 0,jC 18 152 [.t 17],jZ 3 25,jW 4 3 18] (rS [jA 19 2 3,jL 20 19,jK 21 1 20,oP 22 (.mksl 2 8 [.int .i64 0] (.t 21) (.t 21)),jM 4 22] (.seq (rS [jI 5 0] (.block 0 (.loop (.seq (rS [jM 23 5,jA 24 2 3,jL 25 24,jK 26 1 25,jB 27
 .lss 23 26] (kE 27 0)) (.seq (.block 1 (rS [jA 30 2 3,jL 31 30,jM 32 5,jX 33 1 31 32,jL 34 33] (.cond (.t 34) (.region [jM 35 4,jM 36 5,jX 37 1 35 36,oS (.store none 1 (.t 37) (cI 1))]) .skip))) (.region [jM 28 5,jD 29 .add 28 1,jM 5 29])))))) (rS [jI 6 0] (.seq (.block 2 (.loop (.block 3
 (rS [jM 39 4,jC 40 153 [.t 3,.t 39],jM 38 40,jE 41 0 38,jE 42 1 38,jM 7 41,jM 8 42] (rS [jM 43 7,jM 4 43] (.seq (rS [jM 44 8,jM 45 6,jB 46 .eql 44 45] (.cond (.t 46) (.exit 2) .skip)) (.region [jM 47 8,jM 6 47]))))))) (rS [jM 48 6,oP 49 (.mksl 2 8 [.int .i64 0] (.t 48) (.t 48)),jM 9
 49] (.seq (rS [jI 10 0] (.block 4 (.loop (.seq (rS [jM 50 10,jM 51 6,jB 52 .lss 50 51] (kE 52 4)) (.seq (.block 5 (.region [jM 55 9,jM 56 10,jX 57 1 55 56,oS (.store none 1 (.t 57) (cI (-1)))])) (.region [jM 53 10,jD 54 .add 53 1,jM 10 54])))))) (rS [jA 58 1 3,jL 59 58,oP 60 (.mk 2 1
 [.int .i64 0] [(0,1,.t 59)]),jM 11 60] (rS [jM 61 9,jM 62 4,jA 63 1 3,jL 64 63,jX 65 1 62 64,jL 66 65,jX 67 1 61 66,oS (.store none 1 (.t 67) (cI 0))] (rS [jM 68 0,jN 69 68,jA 70 0 69,jL 71 70,oP 72 (.build [.int .i64 0,.int .i64 0,.nils,.nils] [(0,1,.t 71)]),jZ 12 25,jW 4 12
 72] (.seq (rS [jI 13 0] (.block 6 (.loop (.seq (rS [jM 73 13,jM 74 11,jK 75 1 74,jB 76 .lss 73 75] (kE 76 6)) (.seq (.block 7 (rS [oP 79 (.mk 2 0 [] []),jM 14 79] (.seq (rS [jI 15 0] (.block 8 (.loop (.seq (rS [jM 80 15,jA 81 3 3,jL 82 81,jM 83 11,jM 84 13,jX 85 1 83 84,jL 86 85,jX 87 1
 82 86,jL 88 87,jK 89 1 88,jB 90 .lss 80 89] (kE 90 8)) (.seq (.block 9 (rS [jA 93 3 3,jL 94 93,jM 95 11,jM 96 13,jX 97 1 95 96,jL 98 97,jX 99 1 94 98,jL 100 99,jM 101 15,jX 102 1 100 101,jL 103 102,jM 16 103] (.seq (rS [jM 104 9,jM 105 4,jM 106 16,jX 107 1 105 106,jL 108 107,jX
 109 1 104 108,jL 110 109,jD 111 .lss 110 0] (.cond (.t 111) (rS [jM 112 9,jM 113 4,jM 114 16,jX 115 1 113 114,jL 116 115,jM 117 11,jK 118 1 117,jX 119 1 112 116,jW 1 119 118] (.region [jM 120 11,jM 121 16,oP 122 (.mk 2 1 [.int .i64 0] [(0,1,.t 121)]),oP 123 (.app 2 1 8 (.t 120) (.t
 122)),jM 11 123])) .skip)) (.region [jM 124 14,jM 125 9,jM 126 4,jM 127 16,jX 128 1 126 127,jL 129 128,jX 130 1 125 129,jL 131 130,oP 132 (.mk 2 1 [.int .i64 0] [(0,1,.t 131)]),oP 133 (.app 2 1 8 (.t 124) (.t 132)),jM 14 133])))) (.region [jM 91 15,jD 92 .add 91 1,jM 15 92]))))))
 (rS [jA 134 2 12,jL 135 134,jA 136 2 3,jL 137 136,jM 138 11,jM 139 13,jX 140 1 138 139,jL 141 140,jX 142 1 137 141,jL 143 142,oP 144 (.mk 4 1 [.bool false] [(0,1,.t 143)]),oP 145 (.app 4 1 1 (.t 135) (.t 144)),jA 146 2 12,jW 1 146 145] (.region [jA 147 3 12,jL 148 147,jM 149 14,
 oP 150 (.mk 36 1 [.nils] [(0,1,.t 149)]),oP 151 (.app 36 1 24 (.t 148) (.t 150)),jA 152 3 12,jW 1 152 151]))))) (.region [jM 77 13,jD 78 .add 77 1,jM 13 78])))))) (rS [jQ 153 12,jW 4 2 153] .ret))))))))))))⟩
theorem irOk102 : irC Tryz.f102 = some ir102:=by kernel_rfl
def ir106 : BFun:=⟨[.tmp 2],rS [oP 2 (.mov (.c .nils))] (.seq (rS [jM 3 0,oP 4 (.isnil false (.t 3))] (.cond (.t 4) (rS [oP 2 (.mov (.c .nils))] .ret) .skip)) (rS [oP 5 (.mk 4 0 [] []),jM 6 0,oP 7 (.app 4 1 1 (.t 5) (.t 6)),jM 2 7] .ret))⟩
theorem irOk106 : irC Tryz.f106 = some ir106:=by kernel_rfl
def ir110 : BFun:=⟨[.cell 2 (some 4)],rS [jT 1 77 0,jZ 2 77] (rS [jA 9 0 1,jL 10 9,jC 11 94 [.t 10],oP 12 (.mksl 3 8 [.int .i64 0] (.t 11) (.t 11)),oP 3 (.new 80 [.nils]),jW 1 3 12] (.seq (rS [jL 13 3,jK 14 1 13,jI 15 0] (.block 0 (.loop (rS [jB 16 .lss 15 14] (.seq (kE 16 0) (.seq
 (.block 1 (rS [jM 17 15,jM 4 17] (rS [jA 18 0 1,jL 19 18,jM 20 4,jC 21 95 [.t 19,.t 20],jK 22 1 21,jI 23 0] (.block 2 (.loop (rS [jB 24 .lss 23 22] (.seq (kE 24 2) (.seq (.block 3 (rS [jM 25 23,jX 26 1 21 23,jL 27 26,jM 5 25,jM 6 27] (rS [jM 28 6,jD 29 .eql 28 2] (.cond (.t 29)
 (.region [jL 30 3,jM 31 4,jX 32 1 30 31,jL 33 32,jM 34 5,oP 35 (.bin .shl (cI 1) (.t 34)),jB 36 .or 33 35,jX 37 1 30 31,jW 1 37 36]) .skip)))) (.region [jD 38 .add 23 1,jM 23 38]))))))))) (.region [jD 39 .add 15 1,jM 15 39]))))))) (rS [jA 41 0 1,jL 42 41,jA 43 1 1,jL 44 43,oP 45
 (.build [.int .i64 0,.int .i64 0] [(0,1,.t 44)]),oP 46 (.mkfn 165 [.t 1]),oP 47 (.mkfn 166 [.t 3,.t 1]),jC 48 164 [.t 42,.t 45,cI 0,.t 46,.t 47],jM 40 48,jE 49 0 40,jE 50 1 40,jZ 7 77,jW 4 7 49,jM 8 50] (rS [jQ 51 7,jC 52 167 [.t 51],jW 4 2 52] .ret))))⟩
theorem irOk110 : irC Tryz.f110 = some ir110:=by kernel_rfl
def ir111 : BFun:=⟨[.cell 2 (some 4),.tmp 3],rS [jT 1 77 0,jZ 2 25,jI 3 0] (.seq (rS [jA 7 2 1,jL 8 7,jK 9 1 8,jD 10 .gtr 9 150] (.cond (.t 10) (rS [jY 11,jW 4 2 11,jI 3 3] .ret) .skip)) (rS [jA 12 0 1,oP 13 (.load (some 77) none (.t 12)),jA 14 1 1,oP 15 (.load (some 77) none (.t
 14)),jA 16 2 1,jL 17 16,⟨some 18,.call (.c (.fn 106 [])) [.t 17],none,[77]⟩,oP 19 (.build [.int .i64 0,.int .i64 0,.nils,.nils] [(0,1,.t 13),(1,1,.t 15),(2,1,.t 18)]),jZ 4 25,jW 4 4 19] (.seq (rS [jA 20 3 1,jL 21 20,jK 22 1 21,jI 23 0] (.block 0 (.loop (rS [jB 24 .lss 23 22]
 (.seq (kE 24 0) (.seq (.block 1 (rS [jX 25 1 21 23,jL 26 25,jM 6 26] (.region [jA 27 3 4,oP 28 (.load (some 25) none (.t 27)),jM 29 6,⟨some 30,.call (.c (.fn 168 [])) [.t 29],none,[25]⟩,oP 31 (.mk 36 1 [.nils] [(0,1,.t 30)]),oP 32 (.app 36 1 24 (.t 28) (.t 31)),jA 33 3 4,jW 1 33
 32]))) (.region [jD 34 .add 23 1,jM 23 34]))))))) (rS [jQ 35 4,jW 4 2 35,jI 3 0] .ret))))⟩
theorem irOk111 : irC Tryz.f111 = some ir111:=by kernel_rfl
def ir113 : BFun:=⟨[.cell 2 (some 4)],rS [jT 1 25 0,jZ 2 77] (rS [jQ 3 1,jC 4 60 [.t 3],jC 5 110 [.t 4],jW 4 2 5] .ret)⟩
theorem irOk113 : irC Tryz.f113 = some ir113:=by kernel_rfl
def ir115 : BFun:=⟨[.tmp 4],rS [jI 4 0] (rS [jM 5 1,jM 6 0,jK 7 1 6,jB 8 .sub 5 7,jM 1 8] (.seq (rS [jM 9 1,jD 10 .lss 9 0] (.cond (.t 10) (rS [jI 4 (-1)] .ret) .skip)) (rS [jM 11 1,jM 4 11] .ret)))⟩
theorem irOk115 : irC Tryz.f115 = some ir115:=by kernel_rfl
def ir116 : BFun:=⟨[.tmp 2],rS [jF 2 false] (rS [jM 3 0,jN 4 3,jA 5 2 4,jL 6 5,jK 7 1 6,jD 8 .leq 7 150,jM 9 8,oG 10 9 true (.mov (.t 0)),oG 11 9 true (.call (.c (.fn 176 [])) [.t 10]),oP 12 (.pick (.t 9) (.t 11) (.c (.bool false))),jM 2 12] .ret)⟩
theorem irOk116 : irC Tryz.f116 = some ir116:=by kernel_rfl
def ir117 : BFun:=⟨[.tmp 2],rS [jF 2 false] (.seq (rS [jM 5 0,jN 6 5,jA 7 0 6,jL 8 7,jD 9 .neq 8 1] (.cond (.t 9) (rS [jF 2 false] .ret) .skip)) (rS [jM 11 0,jN 12 11,oP 13 (.load (some 25) (some 4) (.t 12)),⟨some 14,.call (.c (.fn 51 [])) [],none,[25]⟩,jC 15 177 [.t 13,.t 14],jM 10
 15,jE 16 0 10,jE 17 1 10,jM 3 16,jM 4 17] (rS [jM 18 3,jM 19 18,oG 20 19 true (.mov (.t 4)),oG 21 19 true (.bin .eql (.t 20) (cI 0)),oP 22 (.pick (.t 19) (.t 21) (.c (.bool false))),jM 2 22] .ret)))⟩
theorem irOk117 : irC Tryz.f117 = some ir117:=by kernel_rfl
def ir122 : BFun:=⟨[.tmp 2],rS [oP 2 (.mov (.c .nils))] (rS [jM 5 0,jK 6 1 5,oP 7 (.mksl 2 8 [.int .i64 0] (.t 6) (.t 6)),jM 3 7] (.seq (rS [jI 4 0] (.block 0 (.loop (.seq (rS [jM 8 4,jM 9 0,jK 10 1 9,jB 11 .lss 8 10] (kE 11 0)) (.seq (.block 1 (.region [jM 14 3,jM 15 4,jM 16 0,jM 17 4,
 jX 18 1 16 17,jL 19 18,jX 20 1 14 15,jW 1 20 19])) (.region [jM 12 4,jD 13 .add 12 1,jM 4 13])))))) (rS [jM 21 3,jM 2 21] .ret)))⟩
theorem irOk122 : irC Tryz.f122 = some ir122:=by kernel_rfl
def ir123 : BFun:=⟨[.tmp 2],rS [jT 1 25 0,jF 2 false] (.seq (rS [jA 5 0 1,jL 6 5,jD 7 .neq 6 1] (.cond (.t 7) (rS [jF 2 false] .ret) .skip)) (rS [oP 9 (.load (some 25) (some 4) (.t 1)),⟨some 10,.call (.c (.fn 25 [])) [],none,[25]⟩,jC 11 182 [.t 9,.t 10],jM 8 11,jE 12 0 8,jE 13 1 8,
 jM 3 12,jM 4 13] (rS [jM 14 3,jM 2 14] .ret)))⟩
theorem irOk123 : irC Tryz.f123 = some ir123:=by kernel_rfl
def ir130 : BFun:=⟨[.tmp 4],rS [jF 4 false] (.seq (rS [jM 6 0,jK 7 1 6,jM 8 1,jK 9 1 8,jB 10 .neq 7 9] (.cond (.t 10) (rS [jF 4 false] .ret) .skip)) (.seq (rS [jI 5 0] (.block 0 (.loop (.seq (rS [jM 11 5,jM 12 0,jK 13 1 12,jB 14 .lss 11 13] (kE 14 0)) (.seq (.block 1 (rS [jM 17 0,jM 18
 5,jX 19 1 17 18,jL 20 19,jM 21 1,jM 22 5,jX 23 1 21 22,jL 24 23,jB 25 .neq 20 24] (.cond (.t 25) (rS [jF 4 false] .ret) .skip))) (.region [jM 15 5,jD 16 .add 15 1,jM 5 16])))))) (rS [jF 4 true] .ret)))⟩
theorem irOk130 : irC Tryz.f130 = some ir130:=by kernel_rfl
def ir135 : BFun:=⟨[.tmp 2,.tmp 3],rS [oP 2 (.mov (.c .nils)),jF 3 false] (rS [jM 15 0,jN 16 15,jA 17 2 16,jL 18 17,jK 19 1 18,oP 20 (.mksl 4 1 [.bool false] (.t 19) (.t 19)),jM 4 20] (rS [jM 21 4,jM 22 0,jN 23 22,jA 24 1 23,jL 25 24,jX 26 1 21 25,oS (.store none 1 (.t 26) (.c
 (.bool true)))] (rS [jM 27 0,jN 28 27,jA 29 1 28,jL 30 29,oP 31 (.mk 2 1 [.int .i64 0] [(0,1,.t 30)]),jM 5 31] (rS [oP 32 (.mk 3 1 [.int .i64 0] [(0,1,cI (-1))]),jM 6 32] (rS [oP 33 (.mk 2 1 [.int .i64 0] [(0,1,cI 0)]),jM 7 33] (.seq (rS [jI 8 0] (.block 0 (.loop (.seq (rS [jM 34 8,
 jM 35 5,jK 36 1 35,jB 37 .lss 34 36] (kE 37 0)) (.seq (.block 1 (.seq (rS [jM 40 0,jN 41 40,jA 42 2 41,jL 43 42,jM 44 5,jM 45 8,jX 46 1 44 45,jL 47 46,jX 48 1 43 47,jL 49 48] (.cond (.t 49) (rS [oP 50 (.mk 2 0 [] []),jM 9 50] (.seq (rS [jM 51 8,jM 10 51] (.block 2 (.loop (.seq (rS [jM
 52 6,jM 53 10,jX 54 1 52 53,jL 55 54,jD 56 .geq 55 0] (kE 56 2)) (.seq (.block 3 (.region [jM 61 9,jM 62 7,jM 63 10,jX 64 1 62 63,jL 65 64,oP 66 (.mk 2 1 [.int .i64 0] [(0,1,.t 65)]),oP 67 (.app 2 1 8 (.t 61) (.t 66)),jM 9 67])) (.region [jM 57 6,jM 58 10,jX 59 1 57 58,jL 60 59,jM
 10 60])))))) (rS [oP 68 (.mk 2 0 [] []),jM 11 68] (.seq (rS [jM 69 9,jK 70 1 69,jD 71 .sub 70 1,jM 12 71] (.block 4 (.loop (.seq (rS [jM 72 12,jD 73 .geq 72 0] (kE 73 4)) (.seq (.block 5 (.region [jM 76 11,jM 77 9,jM 78 12,jX 79 1 77 78,jL 80 79,oP 81 (.mk 2 1 [.int .i64 0] [(0,1,.t
 80)]),oP 82 (.app 2 1 8 (.t 76) (.t 81)),jM 11 82])) (.region [jM 74 12,jD 75 .sub 74 1,jM 12 75])))))) (rS [jM 83 11,jM 2 83,jF 3 true] .ret))))) .skip)) (rS [jI 13 0] (.block 6 (.loop (.seq (rS [jM 84 13,jM 85 0,jN 86 85,jA 87 3 86,jL 88 87,jM 89 5,jM 90 8,jX 91 1 89 90,jL 92 91,
 jX 93 1 88 92,jL 94 93,jK 95 1 94,jB 96 .lss 84 95] (kE 96 6)) (.seq (.block 7 (rS [jM 99 0,jN 100 99,jA 101 3 100,jL 102 101,jM 103 5,jM 104 8,jX 105 1 103 104,jL 106 105,jX 107 1 102 106,jL 108 107,jM 109 13,jX 110 1 108 109,jL 111 110,jM 14 111] (rS [jM 112 4,jM 113 14,jX 114
 1 112 113,jL 115 114,jJ 116 115] (.cond (.t 116) (rS [jM 117 4,jM 118 14,jX 119 1 117 118,oS (.store none 1 (.t 119) (.c (.bool true)))] (rS [jM 120 5,jM 121 14,oP 122 (.mk 2 1 [.int .i64 0] [(0,1,.t 121)]),oP 123 (.app 2 1 8 (.t 120) (.t 122)),jM 5 123] (rS [jM 124 6,jM 125 8,oP 126
 (.mk 3 1 [.int .i64 0] [(0,1,.t 125)]),oP 127 (.app 3 1 8 (.t 124) (.t 126)),jM 6 127] (.region [jM 128 7,jM 129 13,oP 130 (.mk 2 1 [.int .i64 0] [(0,1,.t 129)]),oP 131 (.app 2 1 8 (.t 128) (.t 130)),jM 7 131])))) .skip)))) (.region [jM 97 13,jD 98 .add 97 1,jM 13 98])))))))) (.region
 [jM 38 8,jD 39 .add 38 1,jM 8 39])))))) (rS [oP 132 (.mk 2 0 [] []),jM 2 132,jF 3 false] .ret)))))))⟩
theorem irOk135 : irC Tryz.f135 = some ir135:=by kernel_rfl
def ir139 : BFun:=⟨[.tmp 2],rS [jT 1 77 0,jF 2 false] (rS [jA 3 2 1,jL 4 3,jC 5 192 [.t 4,.c (.bool true)],jJ 6 5,jM 2 6] .ret)⟩
theorem irOk139 : irC Tryz.f139 = some ir139:=by kernel_rfl
def ir140 : BFun:=⟨[.tmp 2],rS [jF 2 false] (rS [jM 6 0,jN 7 6,jA 8 2 7,jL 9 8,jK 10 1 9,jM 3 10] (rS [jM 11 0,jM 12 3,oP 13 (.bin .mul (cI 2) (.t 12)),jC 14 193 [.t 11,.t 13,cI 2],jM 4 14] (.seq (rS [jM 15 3,jM 5 15] (.block 0 (.loop (.seq (rS [jM 16 5,jM 17 3,oP 18 (.bin .mul (cI
 2) (.t 17)),jB 19 .leq 16 18] (kE 19 0)) (.seq (.block 1 (rS [jM 22 4,jM 23 5,jX 24 1 22 23,jL 25 24,jM 26 0,jN 27 26,jA 28 1 27,jL 29 28,jX 30 1 25 29,jL 31 30,jD 32 .gtr 31 0] (.cond (.t 32) (rS [jF 2 false] .ret) .skip))) (.region [jM 20 5,jD 21 .add 20 1,jM 5 21])))))) (rS [jF 2
 true] .ret))))⟩
theorem irOk140 : irC Tryz.f140 = some ir140:=by kernel_rfl
def ir141 : BFun:=⟨[.tmp 4,.tmp 5],rS [oP 4 (.mov (.c (.str ⟨#[]⟩))),jI 5 0] (rS [jI 6 0] (.seq (rS [jM 15 1] (.cond (.t 15) (rS [jM 16 0,jN 17 16,jA 18 2 17,jL 19 18,jK 20 1 19,jM 6 20] (.block 0 (.loop (.seq (rS [jM 21 0,jM 22 6,jC 23 194 [.t 21,.t 22],jD 24 .eql 23 0] (kE 24 0))
 (.seq (.block 1 (rS [jM 27 6,jD 28 .eql 27 0] (.cond (.t 28) (.exit 0) .skip))) (.region [jM 25 6,jD 26 .sub 25 1,jM 6 26])))))) (.block 2 (.loop (.seq (rS [jM 29 0,jM 30 6,jC 31 194 [.t 29,.t 30],jD 32 .eql 31 0] (kE 32 2)) (.block 3 (.region [jM 33 6,jD 34 .add 33 1,jM 6 34])))))))
 (.seq (rS [jM 35 6,jD 36 .gtr 35 40] (.cond (.t 36) (rS [oP 4 (.mov (.c (.str ⟨#[]⟩))),jI 5 3] .ret) .skip)) (rS [jM 37 0,jM 38 6,jC 39 195 [.t 37,.t 38],jM 7 39] (rS [jM 40 6,oP 41 (.mksl 5 1 [.int .u8 0] (.t 40) (.t 40)),jM 8 41] (rS [oP 42 (.mk 4 0 [] []),jM 9 42] (.seq (rS [jI 10 0]
 (.block 4 (.loop (.seq (rS [jM 43 10,jM 44 0,jN 45 44,jA 46 2 45,jL 47 46,jK 48 1 47,jB 49 .lss 43 48] (kE 49 4)) (.seq (.block 5 (.region [jM 52 9,jM 53 0,jN 54 53,jA 55 2 54,jL 56 55,jM 57 10,jX 58 1 56 57,jL 59 58,jM 60 59,oG 61 60 true (.mov (.t 7)),oG 62 60 true (.mov (.t 6)),
 oG 63 60 true (.idx 1 (.t 61) (.t 62)),oG 64 60 true (.load none none (.t 63)),oG 65 60 true (.mov (.t 10)),oG 66 60 true (.idx 1 (.t 64) (.t 65)),oG 67 60 true (.load none none (.t 66)),oP 68 (.pick (.t 60) (.t 67) (.c (.bool false))),oP 69 (.mk 4 1 [.bool false] [(0,1,.t 68)]),oP 70
 (.app 4 1 1 (.t 52) (.t 69)),jM 9 70])) (.region [jM 50 10,jD 51 .add 50 1,jM 10 51])))))) (.seq (rS [jM 71 6,jD 72 .sub 71 1,jM 11 72] (.block 6 (.loop (.seq (rS [jM 73 11,jD 74 .geq 73 0] (kE 74 6)) (.seq (.block 7 (rS [jI 12 0] (.seq (rS [jM 77 1] (.cond (.t 77) (.region [jI 12 1])
 .skip)) (rS [jM 78 12,jM 13 78] (rS [jM 79 0,jM 80 7,jM 81 11,jX 82 1 80 81,jL 83 82,jM 84 9,jM 85 13,jC 86 196 [.t 79,.t 83,.t 84,.t 85],jM 14 86] (.seq (rS [jM 87 14,jC 88 197 [.t 87],jJ 89 88] (.cond (.t 89) (rS [jM 90 12,oP 91 (.bin .sub (cI 1) (.t 90)),jM 13 91] (.region [jM
 92 0,jM 93 7,jM 94 11,jX 95 1 93 94,jL 96 95,jM 97 9,jM 98 13,jC 99 196 [.t 92,.t 96,.t 97,.t 98],jM 14 99])) .skip)) (rS [jM 100 8,jM 101 11,jM 102 13,oP 103 (.bin .add (cI 97) (.t 102)),oP 104 (.conv .u8 (.t 103)),jX 105 1 100 101,jW 1 105 104] (.region [jM 106 14,jM 9
 106])))))))) (.region [jM 75 11,jD 76 .sub 75 1,jM 11 76])))))) (rS [jM 107 8,oP 108 (.b2s 5 (.t 107)),jM 4 108,jI 5 0] .ret)))))))))⟩
theorem irOk141 : irC Tryz.f141 = some ir141:=by kernel_rfl
def ir142 : BFun:=⟨[.tmp 2],rS [jI 2 0] (rS [jI 3 0] (.seq (rS [jM 5 0,jK 6 0 5,jD 7 .sub 6 1,jM 4 7] (.block 0 (.loop (.seq (rS [jM 8 4,jD 9 .geq 8 0] (kE 9 0)) (.seq (.block 1 (.region [jM 12 3,oP 13 (.bin .mul (cI 2) (.t 12)),jM 14 0,jM 15 4,oP 16 (.idxs (.t 14) (.t 15)),oP 17 (.bin
 .sub (.t 16) (.c (.int .u8 97))),oP 18 (.conv .i64 (.t 17)),jB 19 .add 13 18,jM 3 19])) (.region [jM 10 4,jD 11 .sub 10 1,jM 4 11])))))) (rS [jM 20 3,jM 2 20] .ret)))⟩
theorem irOk142 : irC Tryz.f142 = some ir142:=by kernel_rfl
def ir146 : BFun:=⟨[.tmp 2,.tmp 3],rS [jI 2 0,jI 3 0] (.seq (rS [jM 4 0,jK 5 0 4,jD 6 .gtr 5 40] (.cond (.t 6) (rS [jI 2 0,jI 3 3] .ret) .skip)) (.seq (rS [jM 7 0,jC 8 65 [.t 7],jC 9 56 [.t 8],jJ 10 9] (.cond (.t 10) (rS [jI 2 0,jI 3 2] .ret) .skip)) (rS [jM 11 0,jC 12 65 [.t 11],jM 2
 12,jI 3 0] .ret)))⟩
theorem irOk146 : irC Tryz.f146 = some ir146:=by kernel_rfl
def ir147 : BFun:=⟨[.tmp 6],rS [jT 3 77 0,oP 6 (.mov (.c (.str ⟨#[]⟩)))] (rS [jA 23 2 3,jL 24 23,jK 25 1 24,oP 26 (.mksl 4 1 [.bool false] (.t 25) (.t 25)),jM 7 26] (rS [jM 27 7,jA 28 1 3,jL 29 28,jX 30 1 27 29,oS (.store none 1 (.t 30) (.c (.bool true)))] (rS [jM 31 7,oP 32 (.mk 22 1
 [.nils] [(0,1,.t 31)]),jM 8 32] (.seq (rS [jI 9 0] (.block 0 (.loop (.seq (rS [jM 33 9,jM 34 1,jB 35 .lss 33 34] (kE 35 0)) (.seq (.block 1 (rS [jM 38 7,jK 39 1 38,oP 40 (.mksl 4 1 [.bool false] (.t 39) (.t 39)),jM 10 40] (.seq (rS [jM 41 8,jM 42 9,jX 43 1 41 42,jL 44 43,jK 45 1 44,jI
 46 0] (.block 2 (.loop (rS [jB 47 .lss 46 45] (.seq (kE 47 2) (.seq (.block 3 (rS [jM 48 46,jX 49 1 44 46,jL 50 49,jM 11 48,jM 12 50] (rS [jM 51 12] (.cond (.t 51) (.region [jM 52 10,jA 53 3 3,jL 54 53,jM 55 11,jX 56 1 54 55,jL 57 56,oP 58 (.idx 1 (.t 57) (cI 0)),jL 59 58,jM 60 10,jA
 61 3 3,jL 62 61,jM 63 11,jX 64 1 62 63,jL 65 64,oP 66 (.idx 1 (.t 65) (cI 1)),jL 67 66,jX 68 1 52 59,oS (.store none 1 (.t 68) (.c (.bool true))),jX 69 1 60 67,oS (.store none 1 (.t 69) (.c (.bool true)))]) .skip)))) (.region [jD 70 .add 46 1,jM 46 70]))))))) (.region [jM 71 8,jM 72
 10,oP 73 (.mk 22 1 [.nils] [(0,1,.t 72)]),oP 74 (.app 22 1 24 (.t 71) (.t 73)),jM 8 74])))) (.region [jM 36 9,jD 37 .add 36 1,jM 9 37])))))) (rS [jA 75 2 3,jL 76 75,jC 77 106 [.t 76],jM 13 77] (rS [oP 78 (.mk 3 2 [.int .i64 0,.int .i64 0] [(0,1,cI 0),(1,1,cI 1)]),jM 14 78] (.seq
 (rS [jM 79 2] (.cond (.t 79) (.region [oP 80 (.mk 3 2 [.int .i64 0,.int .i64 0] [(0,1,cI 1),(1,1,cI 0)]),jM 14 80]) .skip)) (rS [oP 15 (.mov (.c (.str ⟨#[]⟩)))] (.seq (rS [jM 81 1,jM 16 81] (.block 4 (.loop (.seq (rS [jM 82 16,jD 83 .gtr 82 0] (kE 83 4)) (.seq (.block 5 (rS [jM 86 14,jK
 87 1 86,jI 88 0] (.block 6 (.loop (rS [jB 89 .lss 88 87] (.seq (kE 89 6) (.seq (.block 7 (rS [jX 90 1 86 88,jL 91 90,jM 18 91] (rS [jM 92 13,jK 93 1 92,oP 94 (.mksl 4 1 [.bool false] (.t 93) (.t 93)),jM 19 94] (rS [jF 20 false] (.seq (rS [jM 95 8,jM 96 16,jD 97 .sub 96 1,jX 98 1 95 97,jL
 99 98,jK 100 1 99,jI 101 0] (.block 8 (.loop (rS [jB 102 .lss 101 100] (.seq (kE 102 8) (.seq (.block 9 (rS [jM 103 101,jX 104 1 99 101,jL 105 104,jM 21 103,jM 22 105] (rS [jM 106 22,jM 107 106,oG 108 107 true (.mov (.t 13)),oG 109 107 true (.lea 3 (.t 3)),oG 110 107 true (.load none
 none (.t 109)),oG 111 107 true (.mov (.t 21)),oG 112 107 true (.idx 1 (.t 110) (.t 111)),oG 113 107 true (.load none none (.t 112)),oG 114 107 true (.mov (.t 18)),oG 115 107 true (.idx 1 (.t 113) (.t 114)),oG 116 107 true (.load none none (.t 115)),oG 117 107 true (.idx 1 (.t 108) (.t
 116)),oG 118 107 true (.load none none (.t 117)),oP 119 (.pick (.t 107) (.t 118) (.c (.bool false)))] (.cond (.t 119) (.region [jM 120 19,jM 121 21,jX 122 1 120 121,oS (.store none 1 (.t 122) (.c (.bool true))),jF 20 true]) .skip)))) (.region [jD 123 .add 101 1,jM 101 123]))))))) (rS [jM
 124 20] (.cond (.t 124) (rS [jM 125 19,jM 13 125] (rS [jM 126 18,jM 127 18,jD 128 .add 127 1,oP 129 (.sslice (.c (.str ⟨#[97,98]⟩)) (some (.t 126)) (some (.t 128))),jM 130 15,jB 131 .add 129 130,jM 15 131] (.exit 6))) .skip))))))) (.region [jD 132 .add 88 1,jM 88 132])))))))) (.region [jM
 84 16,jD 85 .sub 84 1,jM 16 85])))))) (rS [jM 133 15,jM 6 133] .ret))))))))))⟩
theorem irOk147 : irC Tryz.f147 = some ir147:=by kernel_rfl
def ir148 : BFun:=⟨[.tmp 2],rS [jI 2 0] (rS [jI 3 1] (.seq (.block 0 (.loop (.seq (rS [jM 4 0,jD 5 .gtr 4 0] (kE 5 0)) (.seq (.block 1 (.region [jM 8 3,jD 9 .mul 8 3,jM 3 9])) (.region [jM 6 0,jD 7 .sub 6 1,jM 0 7]))))) (rS [jM 10 3,jM 2 10] .ret)))⟩
theorem irOk148 : irC Tryz.f148 = some ir148:=by kernel_rfl
def ir150 : BFun:=⟨[.tmp 2],rS [jI 2 0] (rS [jI 3 1] (.seq (.block 0 (.loop (.seq (rS [jM 4 0,jD 5 .gtr 4 0] (kE 5 0)) (.seq (.block 1 (.region [jM 8 3,oP 9 (.bin .mul (cI 3) (.t 8)),jM 3 9])) (.region [jM 6 0,jD 7 .sub 6 1,jM 0 7]))))) (rS [jM 10 3,jM 2 10] .ret)))⟩
theorem irOk150 : irC Tryz.f150 = some ir150:=by kernel_rfl
def ir151 : BFun:=⟨[.tmp 4],rS [jI 4 0] (rS [jM 5 0,jM 6 1,jC 7 150 [.t 6],jB 8 .quo 5 7,jD 9 .rem 8 3,jM 4 9] .ret)⟩
theorem irOk151 : irC Tryz.f151 = some ir151:=by kernel_rfl
def ir152 : BFun:=⟨[.cell 2 (some 4)],rS [jZ 2 25] (rS [jM 20 0,jN 21 20,jA 22 2 21,jL 23 22,jK 24 1 23,jM 3 24] (rS [jM 25 0,jN 26 25,jA 27 0 26,jL 28 27,oP 29 (.conv .u64 (.t 28)),oP 30 (.bin .shl (cI 1) (.t 29)),jM 4 30] (rS [jM 31 3,jM 32 4,jB 33 .mul 31 32,oP 34 (.mksl 2 8
 [.int .i64 0] (.t 33) (.t 33)),jM 5 34] (.seq (rS [jI 6 0] (.block 0 (.loop (.seq (rS [jM 35 6,jM 36 5,jK 37 1 36,jB 38 .lss 35 37] (kE 38 0)) (.seq (.block 1 (.region [jM 41 5,jM 42 6,jX 43 1 41 42,oS (.store none 1 (.t 43) (cI (-1)))])) (.region [jM 39 6,jD 40 .add 39 1,jM 6 40]))))))
 (rS [jM 44 0,jN 45 44,jA 46 1 45,jL 47 46,jM 48 4,jB 49 .mul 47 48,oP 50 (.mk 2 1 [.int .i64 0] [(0,1,.t 49)]),jM 7 50] (rS [jM 51 5,jM 52 0,jN 53 52,jA 54 1 53,jL 55 54,jM 56 4,jB 57 .mul 55 56,jX 58 1 51 57,oS (.store none 1 (.t 58) (cI 0))] (rS [jM 59 0,jN 60 59,jA 61 0 60,
 jL 62 61,oP 63 (.build [.int .i64 0,.int .i64 0,.nils,.nils] [(0,1,.t 62)]),jZ 8 25,jW 4 8 63] (.seq (rS [jI 9 0] (.block 2 (.loop (.seq (rS [jM 64 9,jM 65 7,jK 66 1 65,jB 67 .lss 64 66] (kE 67 2)) (.seq (.block 3 (rS [jM 70 7,jM 71 9,jX 72 1 70 71,jL 73 72,jM 74 4,jB 75 .quo 73
 74,jM 10 75] (rS [oP 76 (.mk 2 0 [] []),jM 11 76] (.seq (rS [jI 12 0] (.block 4 (.loop (.seq (rS [jM 77 12,jM 78 0,jN 79 78,jA 80 0 79,jL 81 80,jC 82 100 [.t 81],jB 83 .lss 77 82] (kE 83 4)) (.seq (.block 5 (rS [jM 86 0,jN 87 86,jA 88 0 87,jL 89 88,jM 90 7,jM 91 9,jX 92 1 90 91,jL
 93 92,jM 94 4,jB 95 .rem 93 94,jM 96 12,jC 97 202 [.t 89,.t 95,.t 96],jM 13 97] (.seq (rS [jM 98 13,jD 99 .lss 98 0] (.cond (.t 99) (rS [jM 100 11,oP 101 (.mk 2 1 [.int .i64 0] [(0,1,cI (-1))]),oP 102 (.app 2 1 8 (.t 100) (.t 101)),jM 11 102] (.exit 5)) .skip)) (rS [jM 103 0,jN 104
 103,jA 105 3 104,jL 106 105,jM 107 10,jX 108 1 106 107,jL 109 108,jM 110 12,jX 111 1 109 110,jL 112 111,jM 113 4,jB 114 .mul 112 113,jM 115 13,jB 116 .add 114 115,jM 14 116] (.seq (rS [jM 117 5,jM 118 14,jX 119 1 117 118,jL 120 119,jD 121 .lss 120 0] (.cond (.t 121) (rS [jM 122 5,
 jM 123 14,jM 124 7,jK 125 1 124,jX 126 1 122 123,jW 1 126 125] (.region [jM 127 7,jM 128 14,oP 129 (.mk 2 1 [.int .i64 0] [(0,1,.t 128)]),oP 130 (.app 2 1 8 (.t 127) (.t 129)),jM 7 130])) .skip)) (.region [jM 131 11,jM 132 5,jM 133 14,jX 134 1 132 133,jL 135 134,oP 136 (.mk 2 1
 [.int .i64 0] [(0,1,.t 135)]),oP 137 (.app 2 1 8 (.t 131) (.t 136)),jM 11 137])))))) (.region [jM 84 12,jD 85 .add 84 1,jM 12 85])))))) (rS [jA 138 2 8,jL 139 138,jM 140 0,jN 141 140,jA 142 2 141,jL 143 142,jM 144 10,jX 145 1 143 144,jL 146 145,oP 147 (.mk 4 1 [.bool false] [(0,1,
 .t 146)]),oP 148 (.app 4 1 1 (.t 139) (.t 147)),jA 149 2 8,jW 1 149 148] (.region [jA 150 3 8,jL 151 150,jM 152 11,oP 153 (.mk 36 1 [.nils] [(0,1,.t 152)]),oP 154 (.app 36 1 24 (.t 151) (.t 153)),jA 155 3 8,jW 1 155 154])))))) (.region [jM 68 9,jD 69 .add 68 1,jM 9 69])))))) (rS [jM
 156 7,jK 157 1 156,jM 15 157] (.seq (rS [jI 16 0] (.block 6 (.loop (.seq (rS [jM 158 16,jA 159 3 8,jL 160 159,jK 161 1 160,jB 162 .lss 158 161] (kE 162 6)) (.seq (.block 7 (rS [jI 17 0] (.block 8 (.loop (.seq (rS [jM 165 17,jA 166 3 8,jL 167 166,jM 168 16,jX 169 1 167 168,jL 170 169,jK
 171 1 170,jB 172 .lss 165 171] (kE 172 8)) (.seq (.block 9 (rS [jA 175 3 8,jL 176 175,jM 177 16,jX 178 1 176 177,jL 179 178,jM 180 17,jX 181 1 179 180,jL 182 181,jD 183 .lss 182 0] (.cond (.t 183) (.region [jA 184 3 8,jL 185 184,jM 186 16,jX 187 1 185 186,jL 188 187,jM 189 17,jM 190
 15,jX 191 1 188 189,jW 1 191 190]) .skip))) (.region [jM 173 17,jD 174 .add 173 1,jM 17 174]))))))) (.region [jM 163 16,jD 164 .add 163 1,jM 16 164])))))) (rS [oP 192 (.mk 2 0 [] []),jM 18 192] (.seq (rS [jI 19 0] (.block 10 (.loop (.seq (rS [jM 193 19,jM 194 0,jN 195 194,jA 196 0 195,
 jL 197 196,jC 198 100 [.t 197],jB 199 .lss 193 198] (kE 199 10)) (.seq (.block 11 (.region [jM 202 18,jM 203 15,oP 204 (.mk 2 1 [.int .i64 0] [(0,1,.t 203)]),oP 205 (.app 2 1 8 (.t 202) (.t 204)),jM 18 205])) (.region [jM 200 19,jD 201 .add 200 1,jM 19 201])))))) (rS [jA 206 2 8,jL 207
 206,oP 208 (.mk 4 1 [.bool false] [(0,1,.c (.bool false))]),oP 209 (.app 4 1 1 (.t 207) (.t 208)),jA 210 2 8,jW 1 210 209] (rS [jA 211 3 8,jL 212 211,jM 213 18,oP 214 (.mk 36 1 [.nils] [(0,1,.t 213)]),oP 215 (.app 36 1 24 (.t 212) (.t 214)),jA 216 3 8,jW 1 216 215] (rS [jQ 217 8,jW
 4 2 217] .ret)))))))))))))))⟩
theorem irOk152 : irC Tryz.f152 = some ir152:=by kernel_rfl
def ir153 : BFun:=⟨[.tmp 4,.tmp 5],rS [oP 4 (.mov (.c .nils)),jI 5 0] (rS [jM 11 1,jK 12 1 11,jM 6 12] (rS [jM 13 6,oP 14 (.mksl 2 8 [.int .i64 0] (.t 13) (.t 13)),jM 7 14] (rS [oP 15 (.mk 2 0 [] []),jM 8 15] (.seq (rS [jI 9 0] (.block 0 (.loop (.seq (rS [jM 16 9,jM 17 6,jB 18 .lss 16
 17] (kE 18 0)) (.seq (.block 1 (rS [jM 21 7,jM 22 9,jX 23 1 21 22,oS (.store none 1 (.t 23) (cI (-1)))] (.seq (rS [jI 10 0] (.block 2 (.loop (.seq (rS [jM 24 10,jM 25 8,jK 26 1 25,jB 27 .lss 24 26,jM 28 27,oG 29 28 true (.mov (.t 7)),oG 30 28 true (.mov (.t 9)),oG 31 28 true (.idx 1 (.t
 29) (.t 30)),oG 32 28 true (.load none none (.t 31)),oG 33 28 true (.bin .lss (.t 32) (cI 0)),oP 34 (.pick (.t 28) (.t 33) (.c (.bool false)))] (kE 34 2)) (.seq (.block 3 (rS [jM 37 1,jM 38 8,jM 39 10,jX 40 1 38 39,jL 41 40,jX 42 1 37 41,jL 43 42,jM 44 1,jM 45 9,jX 46 1 44 45,jL 47
 46,jB 48 .eql 43 47,jM 49 48,oG 50 49 true (.mov (.t 0)),oG 51 49 true (.mov (.t 1)),oG 52 49 true (.mov (.t 8)),oG 53 49 true (.mov (.t 10)),oG 54 49 true (.idx 1 (.t 52) (.t 53)),oG 55 49 true (.load none none (.t 54)),oG 56 49 true (.mov (.t 9)),oG 57 49 true (.call (.c (.fn 203 []))
 [.t 50,.t 51,.t 55,.t 56]),oP 58 (.pick (.t 49) (.t 57) (.c (.bool false)))] (.cond (.t 58) (.region [jM 59 7,jM 60 9,jM 61 10,jX 62 1 59 60,jW 1 62 61]) .skip))) (.region [jM 35 10,jD 36 .add 35 1,jM 10 36])))))) (rS [jM 63 7,jM 64 9,jX 65 1 63 64,jL 66 65,jD 67 .lss 66 0] (.cond
 (.t 67) (rS [jM 68 7,jM 69 9,jM 70 8,jK 71 1 70,jX 72 1 68 69,jW 1 72 71] (.region [jM 73 8,jM 74 9,oP 75 (.mk 2 1 [.int .i64 0] [(0,1,.t 74)]),oP 76 (.app 2 1 8 (.t 73) (.t 75)),jM 8 76])) .skip))))) (.region [jM 19 9,jD 20 .add 19 1,jM 9 20])))))) (rS [jM 77 7,jM 78 8,jK 79 1 78,
 jM 4 77,jM 5 79] .ret)))))⟩
theorem irOk153 : irC Tryz.f153 = some ir153:=by kernel_rfl
def ir156 : BFun:=⟨[.tmp 4],rS [jI 4 0] (.seq (rS [jM 5 0,jC 6 116 [.t 5],jJ 7 6,jM 8 7,oG 9 8 false (.mov (.t 1)),oG 10 8 false (.call (.c (.fn 116 [])) [.t 9]),oG 11 8 false (.not (.t 10)),jP 12 8 11 true] (.cond (.t 12) (rS [jI 4 1] .ret) .skip)) (.seq (rS [jM 13 0,jN 14 13,jA 15 0
 14,jL 16 15,jM 17 1,jN 18 17,jA 19 0 18,jL 20 19,jB 21 .neq 16 20] (.cond (.t 21) (rS [jI 4 2] .ret) .skip)) (rS [jI 4 0] .ret)))⟩
theorem irOk156 : irC Tryz.f156 = some ir156:=by kernel_rfl
def ir164 : BFun:=⟨[.cell 10 (some 4),.tmp 11],rS [jT 6 150 1,jZ 10 77,jF 11 false] (rS [jM 22 0,oP 23 (.build [.int .i64 0,.int .i64 0,.nils,.nils] [(0,1,.t 22)]),jZ 12 77,jW 4 12 23] (rS [oP 24 .mkmap,oP 25 (.load none (some 2) (.t 6)),oS (.mset 5 (.t 24) (.t 25) (cI 0)),jM 26
 24,jM 13 26] (rS [oP 27 (.load none (some 2) (.t 6)),oP 28 (.mk 150 1 [.int .i64 0,.int .i64 0] [(0,2,.t 27)]),jM 14 28] (.seq (rS [jI 15 0] (.block 0 (.loop (.seq (rS [jM 29 15,jM 30 14,jK 31 1 30,jB 32 .lss 29 31] (kE 32 0)) (.seq (.block 1 (rS [jM 35 14,jM 36 15,jX 37 2 35 36,oP 38
 (.load none (some 2) (.t 37)),oP 16 (.new 150 [.int .i64 0,.int .i64 0]),jW 2 16 38] (rS [oP 17 (.mov (.c .nils))] (.seq (rS [jI 18 0] (.block 2 (.loop (.seq (rS [jM 39 18,jM 40 0,jC 41 94 [.t 40],jB 42 .lss 39 41] (kE 42 2)) (.seq (.block 3 (rS [jM 45 4,oP 46 (.load none (some 2) (.t 16)),
 jM 47 18,oP 48 (.call (.t 45) [.t 46,.t 47]),oP 19 (.new 150 [.int .i64 0,.int .i64 0]),jW 2 19 48] (rS [jM 50 13,oP 51 (.load none (some 2) (.t 19)),oP 52 (.look 5 true (.int .i64 0) (.t 50) (.t 51)),jM 49 52,jE 53 0 49,jE 54 1 49,jM 20 53,jM 21 54] (.seq (rS [jM 55 21,jJ 56 55]
 (.cond (.t 56) (rS [jM 57 14,jK 58 1 57,jM 20 58] (rS [jM 59 13,oP 60 (.load none (some 2) (.t 19)),jM 61 20,oS (.mset 5 (.t 59) (.t 60) (.t 61))] (rS [jM 62 14,oP 63 (.load none (some 2) (.t 19)),oP 64 (.mk 150 1 [.int .i64 0,.int .i64 0] [(0,2,.t 63)]),oP 65 (.app 150 2 16 (.t 62) (.t
 64)),jM 14 65] (rS [jM 66 2,jD 67 .gtr 66 0,jM 68 67,oG 69 68 true (.mov (.t 14)),oG 70 68 true (.len 1 (.t 69)),oG 71 68 true (.mov (.t 2)),oG 72 68 true (.bin .gtr (.t 70) (.t 71)),oP 73 (.pick (.t 68) (.t 72) (.c (.bool false)))] (.cond (.t 73) (rS [jY 74,jW 4 10 74,jF 11 false] .ret)
 .skip))))) .skip)) (.region [jM 75 17,jM 76 20,oP 77 (.mk 3 1 [.int .i64 0] [(0,1,.t 76)]),oP 78 (.app 3 1 8 (.t 75) (.t 77)),jM 17 78]))))) (.region [jM 43 18,jD 44 .add 43 1,jM 18 44])))))) (rS [jA 79 2 12,oP 80 (.load (some 77) none (.t 79)),jM 81 3,oP 82 (.load none (some 2) (.t
 16)),⟨some 83,.call (.t 81) [.t 82],none,[77]⟩,oP 84 (.mk 4 1 [.bool false] [(0,1,.t 83)]),oP 85 (.app 4 1 1 (.t 80) (.t 84)),jA 86 2 12,jW 1 86 85] (.region [jA 87 3 12,jL 88 87,jM 89 17,oP 90 (.mk 80 1 [.nils] [(0,1,.t 89)]),oP 91 (.app 80 1 24 (.t 88) (.t 90)),jA 92 3 12,jW 1
 92 91])))))) (.region [jM 33 15,jD 34 .add 33 1,jM 15 34])))))) (rS [jQ 93 12,jW 4 10 93,jF 11 true] .ret)))))⟩
theorem irOk164 : irC Tryz.f164 = some ir164:=by kernel_rfl
def ir165 : BFun:=⟨[.tmp 3],rS [jT 2 150 0,jF 3 false] (rS [jA 4 1 2,jL 5 4,jD 6 .geq 5 0,jM 7 6,oG 8 7 true (.lea 2 (.t 1)),oG 9 7 true (.load none none (.t 8)),oG 10 7 true (.lea 0 (.t 2)),oG 11 7 true (.load none none (.t 10)),oG 12 7 true (.idx 1 (.t 9) (.t 11)),oG 13 7 true (.load
 none none (.t 12)),oP 14 (.pick (.t 7) (.t 13) (.c (.bool false))),jM 3 14] .ret)⟩
theorem irOk165 : irC Tryz.f165 = some ir165:=by kernel_rfl
def ir166 : BFun:=⟨[.cell 6 (some 2)],rS [jT 4 150 0,oP 6 (.new 150 [.int .i64 0,.int .i64 0])] (.seq (rS [jA 7 1 4,jL 8 7,jD 9 .lss 8 0,jM 10 9,oG 11 10 false (.lea 1 (.t 4)),oG 12 10 false (.load none none (.t 11)),oG 13 10 false (.load none none (.t 2)),oG 14 10 false (.mov (.t 1)),
 oG 15 10 false (.idx 1 (.t 13) (.t 14)),oG 16 10 false (.load none none (.t 15)),oG 17 10 false (.bin .andNot (.t 12) (.t 16)),oG 18 10 false (.bin .neq (.t 17) (cI 0)),jP 19 10 18 true] (.cond (.t 19) (rS [oP 20 (.build [.int .i64 0,.int .i64 0] [(1,1,cI (-1))]),jW 2 6 20] .ret) .skip))
 (rS [jA 21 3 3,jL 22 21,jA 23 0 4,jL 24 23,jX 25 1 22 24,jL 26 25,jM 27 1,jX 28 1 26 27,jL 29 28,jL 30 2,jM 31 1,jX 32 1 30 31,jL 33 32,oP 34 (.build [.int .i64 0,.int .i64 0] [(0,1,.t 29),(1,1,.t 33)]),jW 2 6 34] .ret))⟩
theorem irOk166 : irC Tryz.f166 = some ir166:=by kernel_rfl
def ir167 : BFun:=⟨[.cell 2 (some 4)],rS [jT 1 77 0,jZ 2 77] (rS [jA 21 2 1,jL 22 21,jK 23 1 22,oP 24 (.mksl 3 8 [.int .i64 0] (.t 23) (.t 23)),oP 3 (.new 80 [.nils]),jW 1 3 24] (.seq (rS [jA 25 2 1,jL 26 25,jK 27 1 26,jI 28 0] (.block 0 (.loop (rS [jB 29 .lss 28 27] (.seq (kE 29 0)
 (.seq (.block 1 (rS [jM 30 28,jX 31 1 26 28,jL 32 31,jM 4 30,jM 5 32] (rS [jM 33 5] (.cond (.t 33) (.region [jL 34 3,jM 35 4,jX 36 1 34 35,oS (.store none 1 (.t 36) (cI 1))]) .skip)))) (.region [jD 37 .add 28 1,jM 28 37]))))))) (.seq (rS [jI 6 0] (.block 2 (.loop (.block 3 (rS [oP 38
 .mkmap,jM 7 38] (rS [jL 39 3,jK 40 1 39,oP 41 (.mksl 3 8 [.int .i64 0] (.t 40) (.t 40)),jM 8 41] (.seq (rS [jA 42 3 1,jL 43 42,jK 44 1 43,jI 45 0] (.block 4 (.loop (rS [jB 46 .lss 45 44] (.seq (kE 46 4) (.seq (.block 5 (rS [jM 47 45,jX 48 1 43 45,jL 49 48,jM 9 47,jM 10 49] (rS [jL 50 3,
 jM 51 9,jX 52 1 50 51,jL 53 52,jC 54 210 [.t 53],jM 11 54] (.seq (rS [jM 55 10,jK 56 1 55,jI 57 0] (.block 6 (.loop (rS [jB 58 .lss 57 56] (.seq (kE 58 6) (.seq (.block 7 (rS [jX 59 1 55 57,jL 60 59,jM 13 60] (.region [jM 61 11,jL 62 3,jM 63 13,jX 64 1 62 63,jL 65 64,jC 66 210 [.t
 65],oP 67 (.bin .add (.c (.str ⟨#[44]⟩)) (.t 66)),jB 68 .add 61 67,jM 11 68]))) (.region [jD 69 .add 57 1,jM 57 69]))))))) (rS [jM 71 7,jM 72 11,oP 73 (.look 1 true (.int .i64 0) (.t 71) (.t 72)),jM 70 73,jE 74 0 70,jE 75 1 70,jM 14 74,jM 15 75] (.seq (rS [jM 76 15,jJ 77 76] (.cond (.t
 77) (rS [jM 78 7,jK 79 2 78,jM 14 79] (.region [jM 80 7,jM 81 11,jM 82 14,oS (.mset 1 (.t 80) (.t 81) (.t 82))])) .skip)) (.region [jM 83 8,jM 84 9,jM 85 14,jX 86 1 83 84,jW 1 86 85]))))))) (.region [jD 87 .add 45 1,jM 45 87]))))))) (rS [jM 88 8,jW 1 3 88] (.seq (rS [jM 89 7,jK 90 2
 89,jM 91 6,jB 92 .eql 90 91] (.cond (.t 92) (.exit 2) .skip)) (.region [jM 93 7,jK 94 2 93,jM 6 94])))))))))) (rS [jL 95 3,jK 96 1 95,oP 97 (.mksl 3 8 [.int .i64 0] (.t 96) (.t 96)),oP 16 (.new 80 [.nils]),jW 1 16 97] (.seq (rS [jL 98 3,jK 99 1 98,jI 100 0] (.block 8 (.loop (rS [jB 101
 .lss 100 99] (.seq (kE 101 8) (.seq (.block 9 (rS [jM 102 100,jX 103 1 98 100,jL 104 103,jM 17 102,jM 18 104] (.region [jL 105 16,jM 106 18,jM 107 17,jX 108 1 105 106,jW 1 108 107]))) (.region [jD 109 .add 100 1,jM 100 109]))))))) (rS [jA 111 0 1,jL 112 111,jL 113 3,jA 114 1 1,jL 115
 114,jX 116 1 113 115,jL 117 116,oP 118 (.mkfn 211 [.t 1,.t 16]),oP 119 (.mkfn 212 [.t 3,.t 1,.t 16]),jC 120 66 [.t 112,.t 117,cI 0,.t 118,.t 119],jM 110 120,jE 121 0 110,jE 122 1 110,jZ 19 77,jW 4 19 121,jM 20 122] (rS [jQ 123 19,jW 4 2 123] .ret)))))))⟩
theorem irOk167 : irC Tryz.f167 = some ir167:=by kernel_rfl
def ir168 : BFun:=⟨[.tmp 2],rS [oP 2 (.mov (.c .nils))] (rS [oP 3 (.mov (.c .nils))] (.seq (rS [jM 6 0,jK 7 1 6,jI 8 0] (.block 0 (.loop (rS [jB 9 .lss 8 7] (.seq (kE 9 0) (.seq (.block 1 (rS [jX 10 1 6 8,jL 11 10,jM 5 11] (.region [jM 12 3,jM 13 5,oP 14 (.mk 2 1 [.int .i64 0] [(0,1,.t
 13)]),oP 15 (.app 2 1 8 (.t 12) (.t 14)),jM 3 15]))) (.region [jD 16 .add 8 1,jM 8 16]))))))) (rS [jM 17 3,jM 2 17] .ret)))⟩
theorem irOk168 : irC Tryz.f168 = some ir168:=by kernel_rfl
def ir176 : BFun:=⟨[.tmp 2],rS [jF 2 false] (rS [jM 6 0,jN 7 6,jA 8 2 7,jL 9 8,jK 10 1 9,jM 3 10] (.seq (rS [jM 11 0,jN 12 11,jA 13 0 12,jL 14 13,jC 15 48 [.t 14,cI 1,cI 3],jJ 16 15,jM 17 16,oG 18 17 false (.mov (.t 3)),oG 19 17 false (.bin .lss (.t 18) (cI 1)),jP 20 17 19 true,
 jM 21 20,oG 22 21 false (.mov (.t 0)),oG 23 21 false (.nilck (.t 22)),oG 24 21 false (.lea 1 (.t 23)),oG 25 21 false (.load none none (.t 24)),oG 26 21 false (.mov (.t 3)),oG 27 21 false (.bin .sub (.t 26) (cI 1)),oG 28 21 false (.call (.c (.fn 48 [])) [.t 25,cI 0,.t 27]),oG 29 21 false
 (.not (.t 28)),jP 30 21 29 true,jM 31 30,oG 32 31 false (.mov (.t 0)),oG 33 31 false (.nilck (.t 32)),oG 34 31 false (.lea 3 (.t 33)),oG 35 31 false (.load none none (.t 34)),oG 36 31 false (.len 1 (.t 35)),oG 37 31 false (.mov (.t 3)),oG 38 31 false (.bin .neq (.t 36) (.t 37)),jP 39 31
 38 true] (.cond (.t 39) (rS [jF 2 false] .ret) .skip)) (.seq (rS [jI 4 0] (.block 0 (.loop (.seq (rS [jM 40 4,jM 41 0,jN 42 41,jA 43 3 42,jL 44 43,jK 45 1 44,jB 46 .lss 40 45] (kE 46 0)) (.seq (.block 1 (.seq (rS [jM 49 0,jN 50 49,jA 51 3 50,oP 52 (.load (some 25) none (.t 51)),jM 53 4,
 jX 54 1 52 53,oP 55 (.load (some 36) none (.t 54)),jK 56 1 55,jM 57 0,jN 58 57,jA 59 0 58,jL 60 59,⟨some 61,.call (.c (.fn 100 [])) [.t 60],none,[25,36]⟩,jB 62 .neq 56 61] (.cond (.t 62) (rS [jF 2 false] .ret) .skip)) (rS [jI 5 0] (.block 2 (.loop (.seq (rS [jM 63 5,jM 64 0,jN 65 64,
 jA 66 3 65,jL 67 66,jM 68 4,jX 69 1 67 68,jL 70 69,jK 71 1 70,jB 72 .lss 63 71] (kE 72 2)) (.seq (.block 3 (rS [jM 75 0,jN 76 75,jA 77 3 76,jL 78 77,jM 79 4,jX 80 1 78 79,jL 81 80,jM 82 5,jX 83 1 81 82,jL 84 83,jM 85 3,jD 86 .sub 85 1,jC 87 48 [.t 84,cI 0,.t 86],jJ 88 87]
 (.cond (.t 88) (rS [jF 2 false] .ret) .skip))) (.region [jM 73 5,jD 74 .add 73 1,jM 5 74])))))))) (.region [jM 47 4,jD 48 .add 47 1,jM 4 48])))))) (rS [jF 2 true] .ret))))⟩
theorem irOk176 : irC Tryz.f176 = some ir176:=by kernel_rfl
def ir177 : BFun:=⟨[.tmp 4,.tmp 5],rS [jT 2 25 0,jT 3 25 1,jF 4 false,jI 5 0] (.seq (rS [jC 12 156 [.t 2,.t 3],jM 6 12] (rS [jM 13 6,jD 14 .neq 13 0] (.cond (.t 14) (rS [jM 15 6,jF 4 false,jM 5 15] .ret) .skip))) (rS [jC 16 102 [.t 2],jZ 7 25,jW 4 7 16] (rS [jC 17 102 [.t 3],jZ 8 25,
 jW 4 8 17] (rS [jC 18 205 [.t 7,.t 8,cI 3],jZ 9 25,jW 4 9 18] (rS [jC 20 135 [.t 9],jM 19 20,jE 21 0 19,jE 22 1 19,jM 10 21,jM 11 22] (rS [jM 23 11,jJ 24 23,jM 4 24,jI 5 0] .ret))))))⟩
theorem irOk177 : irC Tryz.f177 = some ir177:=by kernel_rfl
def ir182 : BFun:=⟨[.tmp 4,.tmp 5],rS [jT 2 25 0,jT 3 25 1,jF 4 false,jI 5 0] (.seq (rS [jQ 7 2,jQ 8 3,jC 9 218 [.t 7,.t 8],jM 6 9] (rS [jM 10 6,jD 11 .neq 10 0] (.cond (.t 11) (rS [jM 12 6,jF 4 false,jM 5 12] .ret) .skip))) (rS [jQ 13 2,oP 15 (.load (some 25) (some 4) (.t 3)),⟨some
 14,.call (.c (.fn 113 [])) [.t 13],none,[25]⟩,jC 16 113 [.t 15],oP 17 (.call (.c (.fn 219 [])) [.t 14,.t 16,.c (.fn 220 [])]),jC 18 139 [.t 17],jM 4 18,jI 5 0] .ret))⟩
theorem irOk182 : irC Tryz.f182 = some ir182:=by kernel_rfl
def ir192 : BFun:=⟨[.tmp 4],rS [jF 4 false] (rS [jM 5 0,jM 6 1,jC 7 221 [.t 5,.t 6],jD 8 .geq 7 0,jM 4 8] .ret)⟩
theorem irOk192 : irC Tryz.f192 = some ir192:=by kernel_rfl
def ir193 : BFun:=⟨[.tmp 6],rS [oP 6 (.mov (.c .nils))] (rS [jM 14 0,jN 15 14,jA 16 2 15,jL 17 16,jK 18 1 17,oP 19 (.mksl 2 8 [.int .i64 0] (.t 18) (.t 18)),jM 7 19] (.seq (rS [jI 8 0] (.block 0 (.loop (.seq (rS [jM 20 8,jM 21 0,jN 22 21,jA 23 2 22,jL 24 23,jK 25 1 24,jB 26 .lss 20
 25] (kE 26 0)) (.seq (.block 1 (rS [jM 29 0,jN 30 29,jA 31 2 30,jL 32 31,jM 33 8,jX 34 1 32 33,jL 35 34] (.cond (.t 35) (.region [jM 36 7,jM 37 8,jX 38 1 36 37,oS (.store none 1 (.t 38) (cI 1))]) .skip))) (.region [jM 27 8,jD 28 .add 27 1,jM 8 28])))))) (rS [jM 39 7,oP 40 (.mk 36 1
 [.nils] [(0,1,.t 39)]),jM 9 40] (.seq (rS [jI 10 1] (.block 2 (.loop (.seq (rS [jM 41 10,jM 42 1,jB 43 .leq 41 42] (kE 43 2)) (.seq (.block 3 (rS [jM 46 0,jN 47 46,jA 48 2 47,jL 49 48,jK 50 1 49,oP 51 (.mksl 2 8 [.int .i64 0] (.t 50) (.t 50)),jM 11 51] (.seq (rS [jI 12 0] (.block 4
 (.loop (.seq (rS [jM 52 12,jM 53 0,jN 54 53,jA 55 2 54,jL 56 55,jK 57 1 56,jB 58 .lss 52 57] (kE 58 4)) (.seq (.block 5 (rS [jI 13 0] (.block 6 (.loop (.seq (rS [jM 61 13,jM 62 0,jN 63 62,jA 64 3 63,jL 65 64,jM 66 12,jX 67 1 65 66,jL 68 67,jK 69 1 68,jB 70 .lss 61 69] (kE 70 6))
 (.seq (.block 7 (.region [jM 73 11,jM 74 12,jM 75 11,jM 76 12,jX 77 1 75 76,jL 78 77,jM 79 7,jM 80 0,jN 81 80,jA 82 3 81,jL 83 82,jM 84 12,jX 85 1 83 84,jL 86 85,jM 87 13,jX 88 1 86 87,jL 89 88,jX 90 1 79 89,jL 91 90,jB 92 .add 78 91,jM 93 2,jC 94 222 [.t 92,.t 93],jX 95 1
 73 74,jW 1 95 94])) (.region [jM 71 13,jD 72 .add 71 1,jM 13 72]))))))) (.region [jM 59 12,jD 60 .add 59 1,jM 12 60])))))) (rS [jM 96 11,jM 7 96] (.region [jM 97 9,jM 98 7,oP 99 (.mk 36 1 [.nils] [(0,1,.t 98)]),oP 100 (.app 36 1 24 (.t 97) (.t 99)),jM 9 100]))))) (.region [jM 44 10,jD
 45 .add 44 1,jM 10 45])))))) (rS [jM 101 9,jM 6 101] .ret)))))⟩
theorem irOk193 : irC Tryz.f193 = some ir193:=by kernel_rfl
def ir194 : BFun:=⟨[.tmp 4],rS [jI 4 0] (rS [jM 7 0,jM 8 1,jC 9 195 [.t 7,.t 8],jM 5 9] (.seq (rS [jI 6 0] (.block 0 (.loop (.seq (rS [jM 10 6,jM 11 0,jN 12 11,jA 13 2 12,jL 14 13,jK 15 1 14,jB 16 .lss 10 15] (kE 16 0)) (.seq (.block 1 (rS [jM 19 0,jN 20 19,jA 21 2 20,jL 22 21,jM
 23 6,jX 24 1 22 23,jL 25 24,jM 26 25,oG 27 26 true (.mov (.t 5)),oG 28 26 true (.mov (.t 1)),oG 29 26 true (.idx 1 (.t 27) (.t 28)),oG 30 26 true (.load none none (.t 29)),oG 31 26 true (.mov (.t 6)),oG 32 26 true (.idx 1 (.t 30) (.t 31)),oG 33 26 true (.load none none (.t 32)),oP 34
 (.pick (.t 26) (.t 33) (.c (.bool false)))] (.cond (.t 34) (rS [jI 4 1] .ret) .skip))) (.region [jM 17 6,jD 18 .add 17 1,jM 6 18])))))) (rS [jI 4 0] .ret)))⟩
theorem irOk194 : irC Tryz.f194 = some ir194:=by kernel_rfl
def ir195 : BFun:=⟨[.tmp 4],rS [oP 4 (.mov (.c .nils))] (rS [jM 10 0,jN 11 10,jA 12 2 11,jL 13 12,jK 14 1 13,oP 15 (.mksl 4 1 [.bool false] (.t 14) (.t 14)),jM 5 15] (rS [jM 16 5,jM 17 0,jN 18 17,jA 19 1 18,jL 20 19,jX 21 1 16 20,oS (.store none 1 (.t 21) (.c (.bool true)))] (rS [jM
 22 5,oP 23 (.mk 22 1 [.nils] [(0,1,.t 22)]),jM 6 23] (.seq (rS [jI 7 0] (.block 0 (.loop (.seq (rS [jM 24 7,jM 25 1,jB 26 .lss 24 25] (kE 26 0)) (.seq (.block 1 (rS [jM 29 0,jN 30 29,jA 31 2 30,jL 32 31,jK 33 1 32,oP 34 (.mksl 4 1 [.bool false] (.t 33) (.t 33)),jM 8 34] (.seq (rS [jI 9
 0] (.block 2 (.loop (.seq (rS [jM 35 9,jM 36 5,jK 37 1 36,jB 38 .lss 35 37] (kE 38 2)) (.seq (.block 3 (rS [jM 41 5,jM 42 9,jX 43 1 41 42,jL 44 43] (.cond (.t 44) (rS [jM 45 8,jM 46 0,jN 47 46,jA 48 3 47,jL 49 48,jM 50 9,jX 51 1 49 50,jL 52 51,oP 53 (.idx 1 (.t 52) (cI 0)),jL 54 53,
 jX 55 1 45 54,oS (.store none 1 (.t 55) (.c (.bool true)))] (.region [jM 56 8,jM 57 0,jN 58 57,jA 59 3 58,jL 60 59,jM 61 9,jX 62 1 60 61,jL 63 62,oP 64 (.idx 1 (.t 63) (cI 1)),jL 65 64,jX 66 1 56 65,oS (.store none 1 (.t 66) (.c (.bool true)))])) .skip))) (.region [jM 39 9,jD 40 .add
 39 1,jM 9 40])))))) (rS [jM 67 6,jM 68 8,oP 69 (.mk 22 1 [.nils] [(0,1,.t 68)]),oP 70 (.app 22 1 24 (.t 67) (.t 69)),jM 6 70] (.region [jM 71 8,jM 5 71]))))) (.region [jM 27 7,jD 28 .add 27 1,jM 7 28])))))) (rS [jM 72 6,jM 4 72] .ret)))))⟩
theorem irOk195 : irC Tryz.f195 = some ir195:=by kernel_rfl
def ir196 : BFun:=⟨[.tmp 8],rS [oP 8 (.mov (.c .nils))] (rS [oP 11 (.mk 4 0 [] []),jM 9 11] (.seq (rS [jI 10 0] (.block 0 (.loop (.seq (rS [jM 12 10,jM 13 1,jK 14 1 13,jB 15 .lss 12 14] (kE 15 0)) (.seq (.block 1 (.region [jM 18 9,jM 19 1,jM 20 10,jX 21 1 19 20,jL 22 21,jM 23 22,oG 24
 23 true (.mov (.t 2)),oG 25 23 true (.mov (.t 0)),oG 26 23 true (.nilck (.t 25)),oG 27 23 true (.lea 3 (.t 26)),oG 28 23 true (.load none none (.t 27)),oG 29 23 true (.mov (.t 10)),oG 30 23 true (.idx 1 (.t 28) (.t 29)),oG 31 23 true (.load none none (.t 30)),oG 32 23 true (.mov (.t 3)),
 oG 33 23 true (.idx 1 (.t 31) (.t 32)),oG 34 23 true (.load none none (.t 33)),oG 35 23 true (.idx 1 (.t 24) (.t 34)),oG 36 23 true (.load none none (.t 35)),oP 37 (.pick (.t 23) (.t 36) (.c (.bool false))),oP 38 (.mk 4 1 [.bool false] [(0,1,.t 37)]),oP 39 (.app 4 1 1 (.t 18) (.t 38)),jM
 9 39])) (.region [jM 16 10,jD 17 .add 16 1,jM 10 17])))))) (rS [jM 40 9,jM 8 40] .ret)))⟩
theorem irOk196 : irC Tryz.f196 = some ir196:=by kernel_rfl
def ir197 : BFun:=⟨[.tmp 2],rS [jF 2 false] (.seq (rS [jI 3 0] (.block 0 (.loop (.seq (rS [jM 4 3,jM 5 0,jK 6 1 5,jB 7 .lss 4 6] (kE 7 0)) (.seq (.block 1 (rS [jM 10 0,jM 11 3,jX 12 1 10 11,jL 13 12] (.cond (.t 13) (rS [jF 2 true] .ret) .skip))) (.region [jM 8 3,jD 9 .add 8 1,jM 3
 9])))))) (rS [jF 2 false] .ret))⟩
theorem irOk197 : irC Tryz.f197 = some ir197:=by kernel_rfl
def ir198 : BFun:=⟨[.tmp 2],rS [jT 1 77 0,oP 2 (.mov (.c .nils))] (rS [jA 11 2 1,jL 12 11,jK 13 1 12,oP 14 (.mksl 3 8 [.int .i64 0] (.t 13) (.t 13)),jM 3 14] (.seq (rS [jA 15 2 1,jL 16 15,jK 17 1 16,jI 18 0] (.block 0 (.loop (rS [jB 19 .lss 18 17] (.seq (kE 19 0) (.seq (.block 1 (rS [jM
 20 18,jX 21 1 16 18,jL 22 21,jM 4 20,jM 5 22] (rS [jM 23 5,jJ 24 23] (.cond (.t 24) (.region [jM 25 3,jM 26 4,jX 27 1 25 26,oS (.store none 1 (.t 27) (cI (-1)))]) .skip)))) (.region [jD 28 .add 18 1,jM 18 28]))))))) (.seq (rS [jI 6 1] (.block 2 (.loop (.seq (rS [jM 29 6,jM 30 3,jK 31 1
 30,jB 32 .leq 29 31] (kE 32 2)) (.seq (.block 3 (rS [jA 35 3 1,jL 36 35,jK 37 1 36,jI 38 0] (.block 4 (.loop (rS [jB 39 .lss 38 37] (.seq (kE 39 4) (.seq (.block 5 (rS [jM 40 38,jX 41 1 36 38,jL 42 41,jM 7 40,jM 8 42] (.seq (rS [jM 43 3,jM 44 7,jX 45 1 43 44,jL 46 45,jD 47 .geq 46 0]
 (.cond (.t 47) (.exit 5) .skip)) (rS [jM 48 8,jK 49 1 48,jI 50 0] (.block 6 (.loop (rS [jB 51 .lss 50 49] (.seq (kE 51 6) (.seq (.block 7 (rS [jX 52 1 48 50,jL 53 52,jM 10 53] (rS [jM 54 3,jM 55 10,jX 56 1 54 55,jL 57 56,jM 58 6,jD 59 .sub 58 1,jB 60 .eql 57 59] (.cond (.t 60) (rS [jM 61
 3,jM 62 7,jM 63 6,jX 64 1 61 62,jW 1 64 63] (.exit 6)) .skip)))) (.region [jD 65 .add 50 1,jM 50 65])))))))))) (.region [jD 66 .add 38 1,jM 38 66])))))))) (.region [jM 33 6,jD 34 .add 33 1,jM 6 34])))))) (rS [jM 67 3,jM 2 67] .ret))))⟩
theorem irOk198 : irC Tryz.f198 = some ir198:=by kernel_rfl
def ir202 : BFun:=⟨[.tmp 6],rS [jI 6 0] (.seq (rS [jI 7 0] (.block 0 (.loop (.seq (rS [jM 9 7,jM 10 0,jB 11 .lss 9 10] (kE 11 0)) (.seq (.block 1 (rS [jM 14 2,jM 15 7,jC 16 151 [.t 14,.t 15],jD 17 .eql 16 2,jM 8 17] (.seq (rS [jM 18 8,jJ 19 18,jM 20 19,oG 21 20 true (.mov (.t 1)),oG
 22 20 true (.mov (.t 7)),oG 23 20 true (.conv .u64 (.t 22)),oG 24 20 true (.bin .shr (.t 21) (.t 23)),oG 25 20 true (.bin .and (.t 24) (cI 1)),oG 26 20 true (.bin .eql (.t 25) (cI 1)),oP 27 (.pick (.t 20) (.t 26) (.c (.bool false)))] (.cond (.t 27) (rS [jI 6 (-1)] .ret) .skip)) (rS [jM 28 8]
 (.cond (.t 28) (.region [jM 29 1,jM 30 7,oP 31 (.conv .u64 (.t 30)),oP 32 (.bin .shl (cI 1) (.t 31)),jB 33 .or 29 32,jM 1 33]) .skip))))) (.region [jM 12 7,jD 13 .add 12 1,jM 7 13])))))) (rS [jM 34 1,jM 6 34] .ret))⟩
theorem irOk202 : irC Tryz.f202 = some ir202:=by kernel_rfl
def ir203 : BFun:=⟨[.tmp 8],rS [jF 8 false] (.seq (rS [jI 9 0] (.block 0 (.loop (.seq (rS [jM 10 9,jM 11 0,jN 12 11,jA 13 3 12,jL 14 13,jM 15 2,jX 16 1 14 15,jL 17 16,jK 18 1 17,jB 19 .lss 10 18] (kE 19 0)) (.seq (.block 1 (rS [jM 22 1,jM 23 0,jN 24 23,jA 25 3 24,jL 26 25,jM 27 2,
 jX 28 1 26 27,jL 29 28,jM 30 9,jX 31 1 29 30,jL 32 31,jX 33 1 22 32,jL 34 33,jM 35 1,jM 36 0,jN 37 36,jA 38 3 37,jL 39 38,jM 40 3,jX 41 1 39 40,jL 42 41,jM 43 9,jX 44 1 42 43,jL 45 44,jX 46 1 35 45,jL 47 46,jB 48 .neq 34 47] (.cond (.t 48) (rS [jF 8 false] .ret) .skip)))
 (.region [jM 20 9,jD 21 .add 20 1,jM 9 21])))))) (rS [jF 8 true] .ret))⟩
theorem irOk203 : irC Tryz.f203 = some ir203:=by kernel_rfl
def ir205 : BFun:=⟨[.cell 6 (some 4)],rS [jZ 6 25] (rS [jM 13 0,jM 14 1,jC 15 235 [.t 13,.t 14],jZ 7 25,jW 4 7 15] (rS [jM 16 1,jN 17 16,jA 18 2 17,jL 19 18,jK 20 1 19,jM 8 20] (.seq (rS [jI 9 0] (.block 0 (.loop (.seq (rS [jM 21 9,jM 22 0,jN 23 22,jA 24 2 23,jL 25 24,jK 26 1 25,
 jB 27 .lss 21 26] (kE 27 0)) (.seq (.block 1 (rS [jI 10 0] (.block 2 (.loop (.seq (rS [jM 30 10,jM 31 8,jB 32 .lss 30 31] (kE 32 2)) (.seq (.block 3 (rS [jM 35 0,jN 36 35,jA 37 2 36,jL 38 37,jM 39 9,jX 40 1 38 39,jL 41 40,jM 11 41] (rS [jM 42 1,jN 43 42,jA 44 2 43,jL 45 44,jM 46 10,
 jX 47 1 45 46,jL 48 47,jM 12 48] (rS [jM 49 2] (.block 4 (rS [jD 64 .eql 49 1,jM 63 64] (.cond (.t 63) (.region [jA 65 2 7,jL 66 65,jM 67 9,jM 68 8,jB 69 .mul 67 68,jM 70 10,jB 71 .add 69 70,jM 72 11,jM 73 72,oG 74 73 true (.mov (.t 12)),oP 75 (.pick (.t 73) (.t 74) (.c (.bool
 false))),jX 76 1 66 71,jW 1 76 75]) (rS [jD 78 .eql 49 2,jM 77 78] (.cond (.t 77) (.region [jA 79 2 7,jL 80 79,jM 81 9,jM 82 8,jB 83 .mul 81 82,jM 84 10,jB 85 .add 83 84,jM 86 11,jM 87 86,oG 88 87 false (.mov (.t 12)),jP 89 87 88 true,jX 90 1 80 85,jW 1 90 89]) (.region [jA 50 2 7,
 jL 51 50,jM 52 9,jM 53 8,jB 54 .mul 52 53,jM 55 10,jB 56 .add 54 55,jM 57 11,jM 58 57,oG 59 58 true (.mov (.t 12)),oG 60 58 true (.not (.t 59)),oP 61 (.pick (.t 58) (.t 60) (.c (.bool false))),jX 62 1 51 56,jW 1 62 61])))))))))) (.region [jM 33 10,jD 34 .add 33 1,jM 10 34])))))))
 (.region [jM 28 9,jD 29 .add 28 1,jM 9 29])))))) (rS [jQ 91 7,jW 4 6 91] .ret))))⟩
theorem irOk205 : irC Tryz.f205 = some ir205:=by kernel_rfl
def ir211 : BFun:=⟨[.tmp 4],rS [jF 4 false] (rS [jA 5 2 1,jL 6 5,jL 7 2,jM 8 0,jX 9 1 7 8,jL 10 9,jX 11 1 6 10,jL 12 11,jM 4 12] .ret)⟩
theorem irOk211 : irC Tryz.f211 = some ir211:=by kernel_rfl
def ir212 : BFun:=⟨[.tmp 7],rS [jI 7 0] (rS [jL 8 2,jA 9 3 3,jL 10 9,jL 11 4,jM 12 0,jX 13 1 11 12,jL 14 13,jX 15 1 10 14,jL 16 15,jM 17 1,jX 18 1 16 17,jL 19 18,jX 20 1 8 19,jL 21 20,jM 7 21] .ret)⟩
theorem irOk212 : irC Tryz.f212 = some ir212:=by kernel_rfl
def ir218 : BFun:=⟨[.tmp 4],rS [jT 2 25 0,jT 3 25 1,jI 4 0] (.seq (.block 0 (rS [jQ 6 2,jC 7 58 [.t 6],jJ 8 7,jM 9 8,oG 10 9 false (.load none (some 4) (.t 3)),oG 11 9 false (.call (.c (.fn 58 [])) [.t 10]),oG 12 9 false (.not (.t 11)),jP 13 9 12 true,jM 5 13] (.cond (.t 5) (rS [jI 4
 1] .ret) (rS [jA 15 0 2,jL 16 15,jA 17 0 3,jL 18 17,jB 19 .neq 16 18,jM 14 19] (.cond (.t 14) (rS [jI 4 2] .ret) .skip))))) (rS [jI 4 0] .ret))⟩
theorem irOk218 : irC Tryz.f218 = some ir218:=by kernel_rfl
def ir219 : BFun:=⟨[.cell 6 (some 4)],rS [jT 3 77 0,jT 4 77 1,jT 5 165 2,jZ 6 77] (rS [jA 10 0 3,jL 11 10,jA 12 1 3,jL 13 12,jA 14 1 4,jL 15 14,oP 16 (.build [.int .i64 0,.int .i64 0] [(0,1,.t 13),(1,1,.t 15)]),oP 17 (.mkfn 244 [.t 5,.t 3,.t 4]),oP 18 (.mkfn 245 [.t 3,.t 4]),
 jC 19 243 [.t 11,.t 16,cI 0,.t 17,.t 18],jM 9 19,jE 20 0 9,jE 21 1 9,jZ 7 77,jW 4 7 20,jM 8 21] (rS [jQ 22 7,jW 4 6 22] .ret))⟩
theorem irOk219 : irC Tryz.f219 = some ir219:=by kernel_rfl
def ir220 : BFun:=⟨[.tmp 4],rS [jF 4 false] (rS [jM 5 0,jM 6 5,oG 7 6 true (.mov (.t 1)),oG 8 6 true (.not (.t 7)),oP 9 (.pick (.t 6) (.t 8) (.c (.bool false))),jM 4 9] .ret)⟩
theorem irOk220 : irC Tryz.f220 = some ir220:=by kernel_rfl
def ir221 : BFun:=⟨[.tmp 4],rS [jI 4 0] (.seq (rS [jM 6 0,jK 7 1 6,jI 8 0] (.block 0 (.loop (rS [jB 9 .lss 8 7] (.seq (kE 9 0) (.seq (.block 1 (rS [jM 10 8,jM 5 10] (rS [jM 11 1,jM 12 0,jM 13 5,jX 14 1 12 13,jL 15 14,oP 16 (.beq false (.t 11) (.t 15))] (.cond (.t 16) (rS [jM 17 5,jM 4
 17] .ret) .skip)))) (.region [jD 18 .add 8 1,jM 8 18]))))))) (rS [jI 4 (-1)] .ret))⟩
theorem irOk221 : irC Tryz.f221 = some ir221:=by kernel_rfl
def ir222 : BFun:=⟨[.tmp 4],rS [jI 4 0] (.seq (rS [jM 5 0,jM 6 1,jB 7 .lss 5 6] (.cond (.t 7) (rS [jM 8 0,jM 4 8] .ret) .skip)) (rS [jM 9 1,jM 4 9] .ret))⟩
theorem irOk222 : irC Tryz.f222 = some ir222:=by kernel_rfl
def ir235 : BFun:=⟨[.cell 4 (some 4)],rS [jZ 4 25] (rS [jM 11 1,jN 12 11,jA 13 2 12,jL 14 13,jK 15 1 14,jM 5 15] (rS [jM 16 0,jN 17 16,jA 18 0 17,jL 19 18,jM 20 0,jN 21 20,jA 22 1 21,jL 23 22,jM 24 5,jB 25 .mul 23 24,jM 26 1,jN 27 26,jA 28 1 27,jL 29 28,jB 30 .add 25 29,oP 31
 (.build [.int .i64 0,.int .i64 0,.nils,.nils] [(0,1,.t 19),(1,1,.t 30)]),jZ 6 25,jW 4 6 31] (.seq (rS [jI 7 0] (.block 0 (.loop (.seq (rS [jM 32 7,jM 33 0,jN 34 33,jA 35 2 34,jL 36 35,jK 37 1 36,jB 38 .lss 32 37] (kE 38 0)) (.seq (.block 1 (rS [jI 8 0] (.block 2 (.loop (.seq (rS
 [jM 41 8,jM 42 1,jN 43 42,jA 44 2 43,jL 45 44,jK 46 1 45,jB 47 .lss 41 46] (kE 47 2)) (.seq (.block 3 (rS [oP 50 (.mk 2 0 [] []),jM 9 50] (.seq (rS [jI 10 0] (.block 4 (.loop (.seq (rS [jM 51 10,jM 52 0,jN 53 52,jA 54 3 53,jL 55 54,jM 56 7,jX 57 1 55 56,jL 58 57,jK 59 1 58,jB 60
 .lss 51 59] (kE 60 4)) (.seq (.block 5 (.region [jM 63 9,jM 64 0,jN 65 64,jA 66 3 65,jL 67 66,jM 68 7,jX 69 1 67 68,jL 70 69,jM 71 10,jX 72 1 70 71,jL 73 72,jM 74 5,jB 75 .mul 73 74,jM 76 1,jN 77 76,jA 78 3 77,jL 79 78,jM 80 8,jX 81 1 79 80,jL 82 81,jM 83 10,jX 84 1 82 83,jL
 85 84,jB 86 .add 75 85,oP 87 (.mk 2 1 [.int .i64 0] [(0,1,.t 86)]),oP 88 (.app 2 1 8 (.t 63) (.t 87)),jM 9 88])) (.region [jM 61 10,jD 62 .add 61 1,jM 10 62])))))) (rS [jA 89 2 6,jL 90 89,jM 91 0,jN 92 91,jA 93 2 92,jL 94 93,jM 95 7,jX 96 1 94 95,jL 97 96,jM 98 1,jN 99 98,jA 100
 2 99,jL 101 100,jM 102 8,jX 103 1 101 102,jL 104 103,oP 105 (.beq true (.t 97) (.t 104)),oP 106 (.mk 4 1 [.bool false] [(0,1,.t 105)]),oP 107 (.app 4 1 1 (.t 90) (.t 106)),jA 108 2 6,jW 1 108 107] (.region [jA 109 3 6,jL 110 109,jM 111 9,oP 112 (.mk 36 1 [.nils] [(0,1,.t 111)]),oP
 113 (.app 36 1 24 (.t 110) (.t 112)),jA 114 3 6,jW 1 114 113]))))) (.region [jM 48 8,jD 49 .add 48 1,jM 8 49]))))))) (.region [jM 39 7,jD 40 .add 39 1,jM 7 40])))))) (rS [jQ 115 6,jW 4 4 115] .ret))))⟩
theorem irOk235 : irC Tryz.f235 = some ir235:=by kernel_rfl
def ir243 : BFun:=⟨[.cell 10 (some 4),.tmp 11],rS [jT 6 212 1,jZ 10 77,jF 11 false] (rS [jM 22 0,oP 23 (.build [.int .i64 0,.int .i64 0,.nils,.nils] [(0,1,.t 22)]),jZ 12 77,jW 4 12 23] (rS [oP 24 .mkmap,oP 25 (.load none (some 2) (.t 6)),oS (.mset 5 (.t 24) (.t 25) (cI 0)),jM 26
 24,jM 13 26] (rS [oP 27 (.load none (some 2) (.t 6)),oP 28 (.mk 212 1 [.int .i64 0,.int .i64 0] [(0,2,.t 27)]),jM 14 28] (.seq (rS [jI 15 0] (.block 0 (.loop (.seq (rS [jM 29 15,jM 30 14,jK 31 1 30,jB 32 .lss 29 31] (kE 32 0)) (.seq (.block 1 (rS [jM 35 14,jM 36 15,jX 37 2 35 36,oP 38
 (.load none (some 2) (.t 37)),oP 16 (.new 212 [.int .i64 0,.int .i64 0]),jW 2 16 38] (rS [oP 17 (.mov (.c .nils))] (.seq (rS [jI 18 0] (.block 2 (.loop (.seq (rS [jM 39 18,jM 40 0,jC 41 94 [.t 40],jB 42 .lss 39 41] (kE 42 2)) (.seq (.block 3 (rS [jM 45 4,oP 46 (.load none (some 2) (.t 16)),
 jM 47 18,oP 48 (.call (.t 45) [.t 46,.t 47]),oP 19 (.new 212 [.int .i64 0,.int .i64 0]),jW 2 19 48] (rS [jM 50 13,oP 51 (.load none (some 2) (.t 19)),oP 52 (.look 5 true (.int .i64 0) (.t 50) (.t 51)),jM 49 52,jE 53 0 49,jE 54 1 49,jM 20 53,jM 21 54] (.seq (rS [jM 55 21,jJ 56 55]
 (.cond (.t 56) (rS [jM 57 14,jK 58 1 57,jM 20 58] (rS [jM 59 13,oP 60 (.load none (some 2) (.t 19)),jM 61 20,oS (.mset 5 (.t 59) (.t 60) (.t 61))] (rS [jM 62 14,oP 63 (.load none (some 2) (.t 19)),oP 64 (.mk 212 1 [.int .i64 0,.int .i64 0] [(0,2,.t 63)]),oP 65 (.app 212 2 16 (.t 62) (.t
 64)),jM 14 65] (rS [jM 66 2,jD 67 .gtr 66 0,jM 68 67,oG 69 68 true (.mov (.t 14)),oG 70 68 true (.len 1 (.t 69)),oG 71 68 true (.mov (.t 2)),oG 72 68 true (.bin .gtr (.t 70) (.t 71)),oP 73 (.pick (.t 68) (.t 72) (.c (.bool false)))] (.cond (.t 73) (rS [jY 74,jW 4 10 74,jF 11 false] .ret)
 .skip))))) .skip)) (.region [jM 75 17,jM 76 20,oP 77 (.mk 3 1 [.int .i64 0] [(0,1,.t 76)]),oP 78 (.app 3 1 8 (.t 75) (.t 77)),jM 17 78]))))) (.region [jM 43 18,jD 44 .add 43 1,jM 18 44])))))) (rS [jA 79 2 12,oP 80 (.load (some 77) none (.t 79)),jM 81 3,oP 82 (.load none (some 2) (.t
 16)),⟨some 83,.call (.t 81) [.t 82],none,[77]⟩,oP 84 (.mk 4 1 [.bool false] [(0,1,.t 83)]),oP 85 (.app 4 1 1 (.t 80) (.t 84)),jA 86 2 12,jW 1 86 85] (.region [jA 87 3 12,jL 88 87,jM 89 17,oP 90 (.mk 80 1 [.nils] [(0,1,.t 89)]),oP 91 (.app 80 1 24 (.t 88) (.t 90)),jA 92 3 12,jW 1
 92 91])))))) (.region [jM 33 15,jD 34 .add 33 1,jM 15 34])))))) (rS [jQ 93 12,jW 4 10 93,jF 11 true] .ret)))))⟩
theorem irOk243 : irC Tryz.f243 = some ir243:=by kernel_rfl
def ir244 : BFun:=⟨[.tmp 5],rS [jT 4 212 0,jF 5 false] (rS [jL 6 1,jA 7 2 2,jL 8 7,oP 9 (.idxa 2 1 (.t 4) (cI 0)),jL 10 9,jX 11 1 8 10,jL 12 11,jA 13 2 3,jL 14 13,oP 15 (.idxa 2 1 (.t 4) (cI 1)),jL 16 15,jX 17 1 14 16,jL 18 17,oP 19 (.call (.t 6) [.t 12,.t 18]),jM 5 19] .ret)⟩
theorem irOk244 : irC Tryz.f244 = some ir244:=by kernel_rfl
def ir245 : BFun:=⟨[.cell 6 (some 2)],rS [jT 4 212 0,oP 6 (.new 212 [.int .i64 0,.int .i64 0])] (rS [jA 7 3 2,jL 8 7,oP 9 (.idxa 2 1 (.t 4) (cI 0)),jL 10 9,jX 11 1 8 10,jL 12 11,jM 13 1,jX 14 1 12 13,jL 15 14,jA 16 3 3,jL 17 16,oP 18 (.idxa 2 1 (.t 4) (cI 1)),jL 19 18,jX 20 1 17
 19,jL 21 20,jM 22 1,jX 23 1 21 22,jL 24 23,oP 25 (.build [.int .i64 0,.int .i64 0] [(0,1,.t 15),(1,1,.t 24)]),jW 2 6 25] .ret)⟩
theorem irOk245 : irC Tryz.f245 = some ir245:=by kernel_rfl
def fnA : Nat→Option BFun
  | 8 => some ir8
  | 25 => some ir25
  | 27 => some ir27
  | 29 => some ir29
  | 31 => some ir31
  | 36 => some ir36
  | 37 => some ir37
  | 45 => some ir45
  | 46 => some ir46
  | 48 => some ir48
  | 51 => some ir51
  | 56 => some ir56
  | 58 => some ir58
  | 60 => some ir60
  | _ => none
def fnB : Nat→Option BFun
  | 65 => some ir65
  | 66 => some ir66
  | 67 => some ir67
  | 68 => some ir68
  | 69 => some ir69
  | 71 => some ir71
  | 72 => some ir72
  | 73 => some ir73
  | 75 => some ir75
  | 76 => some ir76
  | 77 => some ir77
  | 79 => some ir79
  | 80 => some ir80
  | 90 => some ir90
  | 91 => some ir91
  | 94 => some ir94
  | 95 => some ir95
  | 100 => some ir100
  | 102 => some ir102
  | 106 => some ir106
  | 110 => some ir110
  | 111 => some ir111
  | 113 => some ir113
  | 115 => some ir115
  | 116 => some ir116
  | 117 => some ir117
  | 122 => some ir122
  | _ => none
def fnC : Nat→Option BFun
  | 123 => some ir123
  | 130 => some ir130
  | 135 => some ir135
  | 139 => some ir139
  | 140 => some ir140
  | 141 => some ir141
  | 142 => some ir142
  | 146 => some ir146
  | 147 => some ir147
  | 148 => some ir148
  | 150 => some ir150
  | 151 => some ir151
  | 152 => some ir152
  | 153 => some ir153
  | 156 => some ir156
  | 164 => some ir164
  | 165 => some ir165
  | 166 => some ir166
  | 167 => some ir167
  | 168 => some ir168
  | 176 => some ir176
  | 177 => some ir177
  | 182 => some ir182
  | _ => none
def fnD : Nat→Option BFun
  | 192 => some ir192
  | 193 => some ir193
  | 194 => some ir194
  | 195 => some ir195
  | 196 => some ir196
  | 197 => some ir197
  | 198 => some ir198
  | 202 => some ir202
  | 203 => some ir203
  | 205 => some ir205
  | 211 => some ir211
  | 212 => some ir212
  | 218 => some ir218
  | 219 => some ir219
  | 220 => some ir220
  | 221 => some ir221
  | 222 => some ir222
  | 235 => some ir235
  | 243 => some ir243
  | 244 => some ir244
  | 245 => some ir245
  | _ => none
def fnOf (f : Nat) : Option BFun:=match fnA f with | some x => some x | none => match fnB f with | some x => some x | none => match fnC f with | some x => some x | none => fnD f
def gam (base : Nat) : Ctx:=⟨base,fnOf,orC (orC (itoaB 210) (orC (sortB base 144 3) (orC (compB base 145 3) (cntB 143 4 80 3)))) (orC (delB base 185 3) (insB base 213 3))⟩
theorem linkedA : Linked Tryz.prog sq ⟨0,fnA,fun _ _ _ _ _ => False⟩:=by
  intro f bfn h
  simp only [fnA] at h
  split at h
  · cases h; exact ⟨Tryz.f8,Tryz.func8,irOk8,by kernel_rfl⟩
  · cases h; exact ⟨Tryz.f25,Tryz.func25,irOk25,by kernel_rfl⟩
  · cases h; exact ⟨Tryz.f27,Tryz.func27,irOk27,by kernel_rfl⟩
  · cases h; exact ⟨Tryz.f29,Tryz.func29,irOk29,by kernel_rfl⟩
  · cases h; exact ⟨Tryz.f31,Tryz.func31,irOk31,by kernel_rfl⟩
  · cases h; exact ⟨Tryz.f36,Tryz.func36,irOk36,by kernel_rfl⟩
  · cases h; exact ⟨Tryz.f37,Tryz.func37,irOk37,by kernel_rfl⟩
  · cases h; exact ⟨Tryz.f45,Tryz.func45,irOk45,by kernel_rfl⟩
  · cases h; exact ⟨Tryz.f46,Tryz.func46,irOk46,by kernel_rfl⟩
  · cases h; exact ⟨Tryz.f48,Tryz.func48,irOk48,by kernel_rfl⟩
  · cases h; exact ⟨Tryz.f51,Tryz.func51,irOk51,by kernel_rfl⟩
  · cases h; exact ⟨Tryz.f56,Tryz.func56,irOk56,by kernel_rfl⟩
  · cases h; exact ⟨Tryz.f58,Tryz.func58,irOk58,by kernel_rfl⟩
  · cases h; exact ⟨Tryz.f60,Tryz.func60,irOk60,by kernel_rfl⟩
  · cases h
theorem linkedB : Linked Tryz.prog sq ⟨0,fnB,fun _ _ _ _ _ => False⟩:=by
  intro f bfn h
  simp only [fnB] at h
  split at h
  · cases h; exact ⟨Tryz.f65,Tryz.func65,irOk65,by kernel_rfl⟩
  · cases h; exact ⟨Tryz.f66,Tryz.func66,irOk66,by kernel_rfl⟩
  · cases h; exact ⟨Tryz.f67,Tryz.func67,irOk67,by kernel_rfl⟩
  · cases h; exact ⟨Tryz.f68,Tryz.func68,irOk68,by kernel_rfl⟩
  · cases h; exact ⟨Tryz.f69,Tryz.func69,irOk69,by kernel_rfl⟩
  · cases h; exact ⟨Tryz.f71,Tryz.func71,irOk71,by kernel_rfl⟩
  · cases h; exact ⟨Tryz.f72,Tryz.func72,irOk72,by kernel_rfl⟩
  · cases h; exact ⟨Tryz.f73,Tryz.func73,irOk73,by kernel_rfl⟩
  · cases h; exact ⟨Tryz.f75,Tryz.func75,irOk75,by kernel_rfl⟩
  · cases h; exact ⟨Tryz.f76,Tryz.func76,irOk76,by kernel_rfl⟩
  · cases h; exact ⟨Tryz.f77,Tryz.func77,irOk77,by kernel_rfl⟩
  · cases h; exact ⟨Tryz.f79,Tryz.func79,irOk79,by kernel_rfl⟩
  · cases h; exact ⟨Tryz.f80,Tryz.func80,irOk80,by kernel_rfl⟩
  · cases h; exact ⟨Tryz.f90,Tryz.func90,irOk90,by kernel_rfl⟩
  · cases h; exact ⟨Tryz.f91,Tryz.func91,irOk91,by kernel_rfl⟩
  · cases h; exact ⟨Tryz.f94,Tryz.func94,irOk94,by kernel_rfl⟩
  · cases h; exact ⟨Tryz.f95,Tryz.func95,irOk95,by kernel_rfl⟩
  · cases h; exact ⟨Tryz.f100,Tryz.func100,irOk100,by kernel_rfl⟩
  · cases h; exact ⟨Tryz.f102,Tryz.func102,irOk102,by kernel_rfl⟩
  · cases h; exact ⟨Tryz.f106,Tryz.func106,irOk106,by kernel_rfl⟩
  · cases h; exact ⟨Tryz.f110,Tryz.func110,irOk110,by kernel_rfl⟩
  · cases h; exact ⟨Tryz.f111,Tryz.func111,irOk111,by kernel_rfl⟩
  · cases h; exact ⟨Tryz.f113,Tryz.func113,irOk113,by kernel_rfl⟩
  · cases h; exact ⟨Tryz.f115,Tryz.func115,irOk115,by kernel_rfl⟩
  · cases h; exact ⟨Tryz.f116,Tryz.func116,irOk116,by kernel_rfl⟩
  · cases h; exact ⟨Tryz.f117,Tryz.func117,irOk117,by kernel_rfl⟩
  · cases h; exact ⟨Tryz.f122,Tryz.func122,irOk122,by kernel_rfl⟩
  · cases h
theorem linkedC : Linked Tryz.prog sq ⟨0,fnC,fun _ _ _ _ _ => False⟩:=by
  intro f bfn h
  simp only [fnC] at h
  split at h
  · cases h; exact ⟨Tryz.f123,Tryz.func123,irOk123,by kernel_rfl⟩
  · cases h; exact ⟨Tryz.f130,Tryz.func130,irOk130,by kernel_rfl⟩
  · cases h; exact ⟨Tryz.f135,Tryz.func135,irOk135,by kernel_rfl⟩
  · cases h; exact ⟨Tryz.f139,Tryz.func139,irOk139,by kernel_rfl⟩
  · cases h; exact ⟨Tryz.f140,Tryz.func140,irOk140,by kernel_rfl⟩
  · cases h; exact ⟨Tryz.f141,Tryz.func141,irOk141,by kernel_rfl⟩
  · cases h; exact ⟨Tryz.f142,Tryz.func142,irOk142,by kernel_rfl⟩
  · cases h; exact ⟨Tryz.f146,Tryz.func146,irOk146,by kernel_rfl⟩
  · cases h; exact ⟨Tryz.f147,Tryz.func147,irOk147,by kernel_rfl⟩
  · cases h; exact ⟨Tryz.f148,Tryz.func148,irOk148,by kernel_rfl⟩
  · cases h; exact ⟨Tryz.f150,Tryz.func150,irOk150,by kernel_rfl⟩
  · cases h; exact ⟨Tryz.f151,Tryz.func151,irOk151,by kernel_rfl⟩
  · cases h; exact ⟨Tryz.f152,Tryz.func152,irOk152,by kernel_rfl⟩
  · cases h; exact ⟨Tryz.f153,Tryz.func153,irOk153,by kernel_rfl⟩
  · cases h; exact ⟨Tryz.f156,Tryz.func156,irOk156,by kernel_rfl⟩
  · cases h; exact ⟨Tryz.f164,Tryz.func164,irOk164,by kernel_rfl⟩
  · cases h; exact ⟨Tryz.f165,Tryz.func165,irOk165,by kernel_rfl⟩
  · cases h; exact ⟨Tryz.f166,Tryz.func166,irOk166,by kernel_rfl⟩
  · cases h; exact ⟨Tryz.f167,Tryz.func167,irOk167,by kernel_rfl⟩
  · cases h; exact ⟨Tryz.f168,Tryz.func168,irOk168,by kernel_rfl⟩
  · cases h; exact ⟨Tryz.f176,Tryz.func176,irOk176,by kernel_rfl⟩
  · cases h; exact ⟨Tryz.f177,Tryz.func177,irOk177,by kernel_rfl⟩
  · cases h; exact ⟨Tryz.f182,Tryz.func182,irOk182,by kernel_rfl⟩
  · cases h
theorem linkedD : Linked Tryz.prog sq ⟨0,fnD,fun _ _ _ _ _ => False⟩:=by
  intro f bfn h
  simp only [fnD] at h
  split at h
  · cases h; exact ⟨Tryz.f192,Tryz.func192,irOk192,by kernel_rfl⟩
  · cases h; exact ⟨Tryz.f193,Tryz.func193,irOk193,by kernel_rfl⟩
  · cases h; exact ⟨Tryz.f194,Tryz.func194,irOk194,by kernel_rfl⟩
  · cases h; exact ⟨Tryz.f195,Tryz.func195,irOk195,by kernel_rfl⟩
  · cases h; exact ⟨Tryz.f196,Tryz.func196,irOk196,by kernel_rfl⟩
  · cases h; exact ⟨Tryz.f197,Tryz.func197,irOk197,by kernel_rfl⟩
  · cases h; exact ⟨Tryz.f198,Tryz.func198,irOk198,by kernel_rfl⟩
  · cases h; exact ⟨Tryz.f202,Tryz.func202,irOk202,by kernel_rfl⟩
  · cases h; exact ⟨Tryz.f203,Tryz.func203,irOk203,by kernel_rfl⟩
  · cases h; exact ⟨Tryz.f205,Tryz.func205,irOk205,by kernel_rfl⟩
  · cases h; exact ⟨Tryz.f211,Tryz.func211,irOk211,by kernel_rfl⟩
  · cases h; exact ⟨Tryz.f212,Tryz.func212,irOk212,by kernel_rfl⟩
  · cases h; exact ⟨Tryz.f218,Tryz.func218,irOk218,by kernel_rfl⟩
  · cases h; exact ⟨Tryz.f219,Tryz.func219,irOk219,by kernel_rfl⟩
  · cases h; exact ⟨Tryz.f220,Tryz.func220,irOk220,by kernel_rfl⟩
  · cases h; exact ⟨Tryz.f221,Tryz.func221,irOk221,by kernel_rfl⟩
  · cases h; exact ⟨Tryz.f222,Tryz.func222,irOk222,by kernel_rfl⟩
  · cases h; exact ⟨Tryz.f235,Tryz.func235,irOk235,by kernel_rfl⟩
  · cases h; exact ⟨Tryz.f243,Tryz.func243,irOk243,by kernel_rfl⟩
  · cases h; exact ⟨Tryz.f244,Tryz.func244,irOk244,by kernel_rfl⟩
  · cases h; exact ⟨Tryz.f245,Tryz.func245,irOk245,by kernel_rfl⟩
  · cases h
theorem linked (base : Nat) : Linked Tryz.prog sq (gam base):=by
  intro f bfn h
  have h : fnOf f = some bfn:=h
  unfold fnOf at h
  split at h
  · next x hx => exact linkedA f bfn (by cases h; exact hx)
  split at h
  · next x hx => exact linkedB f bfn (by cases h; exact hx)
  split at h
  · next x hx => exact linkedC f bfn (by cases h; exact hx)
  exact linkedD f bfn h
end Go.Proofs.YtbnmhbmhafbmiaaGreatDoor.W
end
