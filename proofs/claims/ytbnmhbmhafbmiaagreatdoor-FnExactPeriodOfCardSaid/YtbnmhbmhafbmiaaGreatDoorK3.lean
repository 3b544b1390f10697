/-
Texts of our own, put together: Ir.
-/
import Derived.Test.YtbnmhbmhafbmiaaGreatDoorK2
import Derived.Test.YtbnmhbmhafbmiaaGreatDoorProg
import Derived.KernelRfl
section
namespace Go.Proofs.YtbnmhbmhafbmiaaGreatDoor.W
set_option linter.unusedVariables false
open Go.B
noncomputable def sq(t:Nat):Bool:=!Tryz.prog.stoodInHeld t&&!Tryz.prog.eqGuardType Tryz.prog.depth t
theorem sqOk(t:Nat)(h:sq t=true):Tryz.prog.stoodInHeld t=false∧Tryz.prog.eqGuardType Tryz.prog.depth t=false:=by
 simpa[sq] using h
noncomputable abbrev irC(f:Func):Option aM:=aQ8 Tryz.prog.underlying Tryz.prog.info? sq f
abbrev oP(d:Nat)(o:BOp):BOper:=⟨some d,o,none,[]⟩
abbrev oS(o:BOp):BOper:=⟨none,o,none,[]⟩
abbrev oG(d g:Nat)(b:Bool)(o:BOp):BOper:=⟨some d,o,some (g,b),[]⟩
abbrev rS(l:List BOper)(c:BCode):BCode:=.seq (.region l) c
abbrev jM(d a:Nat):BOper:=oP d (.mov (.t a))
abbrev jI(d:Nat)(k:Int):BOper:=oP d (.mov (.c (.int .i64 k)))
abbrev jL(d a:Nat):BOper:=oP d (.load none none (.t a))
abbrev jQ(d a:Nat):BOper:=oP d (.load none (some 4) (.t a))
abbrev jE(d n a:Nat):BOper:=oP d (.ext n (.t a))
abbrev jC(d k:Nat)(xs:List Opd):BOper:=oP d (.call (.c (.fn k [])) xs)
abbrev jA(d n a:Nat):BOper:=oP d (.lea n (.t a))
abbrev jZ(d n:Nat):BOper:=oP d (.new n [.int .i64 0,.int .i64 0,.nils,.nils])
abbrev jW(n a b:Nat):BOper:=oS (.store none n (.t a) (.t b))
abbrev jY(d:Nat):BOper:=oP d (.build [.int .i64 0,.int .i64 0,.nils,.nils] [])
abbrev jX(d n a b:Nat):BOper:=oP d (.idx n (.t a) (.t b))
abbrev jJ(d a:Nat):BOper:=oP d (.not (.t a))
abbrev jB(d:Nat)(o:BinOp)(a b:Nat):BOper:=oP d (.bin o (.t a) (.t b))
abbrev jD(d:Nat)(o:BinOp)(a:Nat)(k:Int):BOper:=oP d (.bin o (.t a) (.c (.int .i64 k)))
abbrev jK(d n a:Nat):BOper:=oP d (.len n (.t a))
abbrev jT(d n a:Nat):BOper:=oP d (.box n (.t a))
abbrev jN(d a:Nat):BOper:=oP d (.nilck (.t a))
abbrev jF(d:Nat)(b:Bool):BOper:=oP d (.mov (.c (.bool b)))
abbrev jP(d a b:Nat)(u:Bool):BOper:=oP d (.pick (.t a) (.c (.bool u)) (.t b))
abbrev kE(a n:Nat):BCode:=.cond (.t a) .skip (.exit n)
abbrev cI(k:Int):Opd:=.c (.int .i64 k)
def ir9:aM:=⟨[.tmp 4],rS [jT 2 49 0,jF 4 false] (rS [jI 5 1048576] (rS [jQ 13 2,jM 14 5,jC 15 27 [.t 13,.t 14],jM 5 15] (.seq (rS [jM 16 5,jD 17 .lss 16 0] (.cond (.t 17) (rS [jF 4 true] .ret) .skip)) (rS [jQ 19 2,jC 20 29 [.t 19],jM 21 1,jC 22 38 [.t 20,.t 21],jM 18 22,jE 23 0
 18,jE 24 1 18,jE 25 2 18,jM 6 23,jM 7 24,jM 8 25] (rS [jQ 26 2,jC 27 29 [.t 26],jZ 9 25,jW 4 9 27] (rS [jQ 29 9,jM 30 1,jC 31 39 [.t 29,.t 30],jM 28 31,jE 32 0 28,jE 33 1 28,jE 34 2 28,jM 10 32,jM 11 33,jM 12 34] (.seq (rS [jM 35 10,jM 36 6,jB 37 .neq 35 36,jM 38 37,oG 39 38
 false (.mov (.t 11)),oG 40 38 false (.mov (.t 7)),oG 41 38 false (.bin .neq (.t 39) (.t 40)),jP 42 38 41 true,jM 43 42,oG 44 43 false (.mov (.t 12)),oG 45 43 false (.mov (.t 8)),oG 46 43 false (.bin .neq (.t 44) (.t 45)),jP 47 43 46 true] (.cond (.t 47) (rS [jF 4 false] .ret) .skip)) (.seq
 (rS [oP 48 (.load (some 25) (some 4) (.t 9)),jQ 49 2,⟨some 50,.call (.c (.fn 29 [])) [.t 49],none,[25]⟩,jC 51 31 [.t 48,.t 50],jJ 52 51] (.cond (.t 52) (rS [jF 4 false] .ret) .skip)) (rS [jF 4 true] .ret)))))))))⟩
def ir18:aM:=⟨[.cell 6 (some 4),.tmp 7],rS [jZ 6 25,jI 7 0] (.seq (rS [jM 16 0,jD 17 .neq 16 1,jM 18 17,oG 19 18 true (.mov (.t 0)),oG 20 18 true (.bin .neq (.t 19) (cI 2)),oP 21 (.pick (.t 18) (.t 20) (.c (.bool false))),jM 22 21,oG 23 22 false (.mov (.t 1)),oG 24 22 false (.len 1
 (.t 23)),oG 25 22 false (.call (.c (.fn 48 [])) [.t 24,cI 1,cI 3]),oG 26 22 false (.not (.t 25)),jP 27 22 26 true,jM 28 27,oG 29 28 false (.mov (.t 2)),oG 30 28 false (.call (.c (.fn 48 [])) [.t 29,cI (-1000),cI 1000]),oG 31 28 false (.not (.t 30)),jP 32 28 31 true] (.cond (.t 32) (rS
 [jY 33,jW 4 6 33,jI 7 2] .ret) .skip)) (.seq (rS [jI 8 0] (.block 0 (.loop (.seq (rS [jM 34 8,jM 35 1,jK 36 1 35,jB 37 .lss 34 36] (kE 37 0)) (.seq (.block 1 (rS [jM 40 1,jM 41 8,jX 42 1 40 41,jL 43 42,jC 44 48 [.t 43,cI (-20),cI 20],jJ 45 44] (.cond (.t 45) (rS [jY 46,jW 4 6 46,jI 7
 2] .ret) .skip))) (.region [jM 38 8,jD 39 .add 38 1,jM 8 39])))))) (rS [jM 48 0,jM 49 1,jM 50 2,jC 51 49 [.t 48,.t 49,.t 50],jM 47 51,jE 52 0 47,jE 53 1 47,jZ 9 25,jW 4 9 52,jM 10 53] (.seq (rS [jM 54 10,jD 55 .neq 54 0] (.cond (.t 55) (rS [jY 56,jM 57 10,jW 4 6 56,jM 7 57] .ret)
 .skip)) (rS [jQ 59 9,jC 60 50 [.t 59],jM 58 60,jE 61 0 58,jE 62 1 58,jZ 11 25,jW 4 11 61,jM 12 62] (.seq (rS [jM 63 12,jD 64 .neq 63 0] (.cond (.t 64) (rS [jY 65,jM 66 12,jW 4 6 65,jM 7 66] .ret) .skip)) (rS [jC 67 51 [],oP 68 (.build [.int .i64 0,.int .i64 0,.nils,.nils,.nils]
 [(0,4,.t 67)]),oP 13 (.new 28 [.int .i64 0,.int .i64 0,.nils,.nils,.nils]),jW 5 13 68] (rS [jM 70 1,jK 71 1 70,jC 72 52 [.t 13,.t 71],jM 69 72,jE 73 0 69,jE 74 1 69,jZ 14 25,jW 4 14 73,jM 15 74] (.seq (rS [jM 75 15,jD 76 .neq 75 0] (.cond (.t 76) (rS [jY 77,jM 78 15,jW 4 6 77,
 jM 7 78] .ret) .skip)) (rS [jQ 79 11,jQ 80 14,jC 81 53 [.t 79,.t 80],jE 82 0 81,jE 83 1 81,jW 4 6 82,jM 7 83] .ret))))))))))⟩
def ir25:aM:=⟨[.cell 0 (some 4)],rS [jZ 0 25] (rS [oP 6 (.call (.c (.fn 66 [])) [cI 1,cI 1,cI 0,.c (.fn 67 []),.c (.fn 68 [])]),jM 5 6,jE 7 0 5,jE 8 1 5,jZ 1 77,jW 4 1 7,jM 2 8] (rS [jQ 10 1,jC 11 69 [.t 10],jM 9 11,jE 12 0 9,jE 13 1 9,jZ 3 25,jW 4 3 12,jM 4 13] (rS [jQ 14
 3,jW 4 0 14] .ret)))⟩
def ir27:aM:=⟨[.tmp 4],rS [jT 2 49 0,jI 4 0] (rS [jA 5 2 2,jL 6 5,jM 7 1,jC 8 71 [.t 6,.t 7],jM 1 8] (.seq (rS [jM 9 1,jD 10 .lss 9 0] (.cond (.t 10) (rS [jI 4 (-1)] .ret) .skip)) (rS [jA 11 3 2,jL 12 11,jM 13 1,jC 14 72 [.t 12,.t 13],jM 1 14] (.seq (rS [jM 15 1,jD 16 .lss 15 0]
 (.cond (.t 16) (rS [jI 4 (-1)] .ret) .skip)) (rS [jM 17 1,jM 4 17] .ret)))))⟩
def ir29:aM:=⟨[.cell 2 (some 4)],rS [jT 1 49 0,jZ 2 25] (rS [jZ 3 25] (rS [jA 4 0 1,jL 5 4,jA 6 0 3,jW 1 6 5] (rS [jA 7 1 1,jL 8 7,jA 9 1 3,jW 1 9 8] (rS [jA 10 2 1,jL 11 10,jC 12 75 [.t 11],jA 13 2 3,jW 1 13 12] (rS [jA 14 3 1,jL 15 14,jC 16 76 [.t 15],jA 17 3 3,jW 1 17 16]
 (rS [jQ 18 3,jW 4 2 18] .ret))))))⟩
def ir31:aM:=⟨[.tmp 4],rS [jT 2 25 0,jT 3 25 1,jF 4 false] (.seq (rS [jA 5 0 2,jL 6 5,jA 7 0 3,jL 8 7,jB 9 .neq 6 8] (.cond (.t 9) (rS [jF 4 false] .ret) .skip)) (.seq (rS [jA 10 1 2,jL 11 10,jA 12 1 3,jL 13 12,jB 14 .neq 11 13] (.cond (.t 14) (rS [jF 4 false] .ret) .skip)) (.seq
 (rS [jA 15 2 2,jL 16 15,jA 17 2 3,jL 18 17,jC 19 79 [.t 16,.t 18],jJ 20 19] (.cond (.t 20) (rS [jF 4 false] .ret) .skip)) (.seq (rS [jA 21 3 2,jL 22 21,jA 23 3 3,jL 24 23,jC 25 80 [.t 22,.t 24],jJ 26 25] (.cond (.t 26) (rS [jF 4 false] .ret) .skip)) (rS [jF 4 true] .ret)))))⟩
def ir38:aM:=⟨[.tmp 4,.tmp 5,.tmp 6],rS [jT 2 25 0,jI 4 0,jI 5 0,jI 6 0] (.seq (rS [jC 13 73 [.t 2],jM 7 13] (rS [jM 14 7,jD 15 .neq 14 0] (.cond (.t 15) (rS [jM 16 7,jI 4 0,jI 5 0,jM 6 16] .ret) .skip))) (.seq (rS [jM 17 1,jC 18 48 [.t 17,cI 1,cI 20],jJ 19 18] (.cond (.t 19)
 (rS [jI 4 0,jI 5 0,jI 6 2] .ret) .skip)) (.seq (rS [jI 8 1] (.block 0 (.loop (.seq (rS [jM 20 8,jM 21 1,jB 22 .leq 20 21] (kE 22 0)) (.seq (.block 1 (rS [jM 26 8,jC 27 85 [.t 2,.t 26],jM 25 27,jE 28 0 25,jE 29 1 25,jZ 9 25,jW 4 9 28,jM 10 29] (.seq (rS [jM 30 10,jD 31 .neq 30 0]
 (.cond (.t 31) (rS [jM 32 10,jI 4 0,jI 5 0,jM 6 32] .ret) .skip)) (rS [jC 34 90 [.t 9,.c (.bool true)],jM 33 34,jE 35 0 33,jE 36 1 33,jM 11 35,jM 12 36] (.seq (rS [jM 37 12] (.block 2 (rS [jD 39 .eql 37 0,jM 38 39] (.cond (.t 38) (rS [jM 40 11,jD 41 .add 40 1,jM 42 8,jM 4 41,jM 5 42,
 jI 6 0] .ret) (rS [jD 44 .eql 37 6,jM 43 44] (.cond (.t 43) (rS [jM 45 8,jI 4 0,jM 5 45,jI 6 0] .ret) (rS [jD 47 .eql 37 4,jM 46 47] (.cond (.t 46) (.exit 1) .skip)))))))) (rS [jM 48 12,jI 4 0,jI 5 0,jM 6 48] .ret)))))) (.region [jM 23 8,jD 24 .add 23 1,jM 8 24])))))) (rS [jI 4 0,jI 5
 0,jI 6 6] .ret))))⟩
def ir39:aM:=⟨[.tmp 4,.tmp 5,.tmp 6],rS [jT 2 25 0,jI 4 0,jI 5 0,jI 6 0] (.seq (rS [jQ 12 2,oP 13 (.mk 25 1 [.int .i64 0,.int .i64 0,.nils,.nils] [(0,4,.t 12)]),jC 14 77 [.t 13],jM 7 14] (rS [jM 15 7,jD 16 .neq 15 0] (.cond (.t 16) (rS [jM 17 7,jI 4 0,jI 5 0,jM 6 17] .ret)
 .skip))) (.seq (rS [jM 18 1,jC 19 45 [.t 18,cI 1,cI 20],jJ 20 19] (.cond (.t 20) (rS [jI 4 0,jI 5 0,jI 6 2] .ret) .skip)) (.seq (rS [jI 8 1] (.block 0 (.loop (.seq (rS [jM 21 8,jM 22 1,jB 23 .leq 21 22] (kE 23 0)) (.seq (.block 1 (rS [jQ 27 2,jM 28 8,jC 29 87 [.t 27,.t 28],jM 26 29,jE
 30 0 26,jE 31 1 26,jZ 9 25,jW 4 9 30,jM 10 31] (.seq (rS [jM 32 10,jD 33 .neq 32 0] (.cond (.t 33) (rS [jM 34 10,jI 4 0,jI 5 0,jM 6 34] .ret) .skip)) (rS [jQ 36 9,jC 37 91 [.t 36],jM 35 37,jE 38 0 35,jE 39 1 35,jM 11 38,jM 10 39] (.seq (rS [jM 40 10] (.block 2 (rS [jD 42 .eql 40 0,
 jM 41 42] (.cond (.t 41) (rS [jM 43 11,jD 44 .add 43 1,jM 45 8,jM 4 44,jM 5 45,jI 6 0] .ret) (rS [jD 47 .eql 40 6,jM 46 47] (.cond (.t 46) (rS [jM 48 8,jI 4 0,jM 5 48,jI 6 0] .ret) (rS [jD 50 .eql 40 4,jM 49 50] (.cond (.t 49) (.exit 1) .skip)))))))) (rS [jM 51 10,jI 4 0,jI 5 0,jM 6
 51] .ret)))))) (.region [jM 24 8,jD 25 .add 24 1,jM 8 25])))))) (rS [jI 4 0,jI 5 0,jI 6 6] .ret))))⟩
def ir41:aM:=⟨[.cell 4 (some 5)],rS [jT 2 25 0,oP 4 (.new 28 [.int .i64 0,.int .i64 0,.nils,.nils,.nils])] (rS [jQ 5 2,jM 6 1,oP 7 (.build [.int .i64 0,.int .i64 0,.nils,.nils,.nils] [(0,4,.t 5),(4,1,.t 6)]),jW 5 4 7] .ret)⟩
def ir45:aM:=⟨[.tmp 6],rS [jF 6 false] (rS [jM 7 1,jM 8 0,jB 9 .leq 7 8,jM 10 9,oG 11 10 true (.mov (.t 0)),oG 12 10 true (.mov (.t 2)),oG 13 10 true (.bin .leq (.t 11) (.t 12)),oP 14 (.pick (.t 10) (.t 13) (.c (.bool false))),jM 6 14] .ret)⟩
def ir46:aM:=⟨[.tmp 2],rS [jF 2 false] (rS [jM 3 0,jC 4 45 [.t 3,cI 1,cI 3],jM 2 4] .ret)⟩
def ir47:aM:=⟨[.cell 6 (some 4),.tmp 7],rS [jT 3 2 0,jZ 6 25,jI 7 0] (rS [jM 19 1,jK 20 1 19,jM 8 20] (rS [jM 21 8,jC 22 94 [.t 21],oP 23 (.mksl 2 8 [.int .i64 0] (.t 22) (.t 22)),oP 9 (.new 36 [.nils]),jW 1 9 23] (.seq (rS [jL 24 9,jK 25 1 24,jI 26 0] (.block 0 (.loop (rS [jB 27
 .lss 26 25] (.seq (kE 27 0) (.seq (.block 1 (rS [jM 28 26,jM 10 28] (rS [jM 29 8,jM 30 10,jC 31 95 [.t 29,.t 30],jK 32 1 31,jI 33 0] (.block 2 (.loop (rS [jB 34 .lss 33 32] (.seq (kE 34 2) (.seq (.block 3 (rS [jM 35 33,jX 36 1 31 33,jL 37 36,jM 11 35,jM 12 37] (rS [jM 38 12,jD 39 .eql
 38 1] (.cond (.t 39) (.region [jL 40 9,jM 41 10,jX 42 1 40 41,jL 43 42,jM 44 1,jM 45 11,jX 46 1 44 45,jL 47 46,jB 48 .add 43 47,jX 49 1 40 41,jW 1 49 48]) .skip)))) (.region [jD 50 .add 33 1,jM 33 50]))))))))) (.region [jD 51 .add 26 1,jM 26 51]))))))) (rS [jM 53 8,jM 54 2,oP 55
 (.mkfn 97 [.t 3]),oP 56 (.mkfn 98 [.t 9,.t 3]),jC 57 96 [.t 53,.t 54,cI 1000,.t 55,.t 56],jM 52 57,jE 58 0 52,jE 59 1 52,jZ 13 77,jW 4 13 58,jM 14 59] (.seq (rS [jM 60 14,jJ 61 60] (.cond (.t 61) (rS [jY 62,jW 4 6 62,jI 7 3] .ret) .skip)) (rS [jQ 64 13,jC 65 69 [.t 64],jM 63 65,
 jE 66 0 63,jE 67 1 63,jZ 15 25,jW 4 15 66,jM 16 67] (rS [jM 69 8,jC 70 99 [.t 69],jM 68 70,jE 71 0 68,jE 72 1 68,jZ 17 25,jW 4 17 71,jM 18 72] (rS [jQ 73 15,jM 74 16,jQ 75 17,jM 76 18,jC 77 88 [.t 73,.t 74,.t 75,.t 76],jE 78 0 77,jE 79 1 77,jW 4 6 78,jM 7 79] .ret))))))))⟩
def ir48:aM:=⟨[.tmp 6],rS [jF 6 false] (rS [jM 7 0,jM 8 1,jB 9 .geq 7 8,jM 10 9,oG 11 10 true (.mov (.t 0)),oG 12 10 true (.mov (.t 2)),oG 13 10 true (.bin .leq (.t 11) (.t 12)),oP 14 (.pick (.t 10) (.t 13) (.c (.bool false))),jM 6 14] .ret)⟩
def ir49:aM:=⟨[.cell 6 (some 4),.tmp 7],rS [jZ 6 25,jI 7 0] (rS [jM 19 1,jK 20 1 19,jM 8 20] (rS [jM 21 8,oP 22 (.build [.int .i64 0,.int .i64 0,.nils,.nils] [(0,1,.t 21)]),jZ 9 25,jW 4 9 22] (rS [jM 23 2,oP 24 (.mk 2 1 [.int .i64 0] [(0,1,.t 23)]),jM 10 24] (rS [jI 11 (-1)]
 (.seq (rS [jI 12 0] (.block 0 (.loop (.seq (rS [jM 25 12,jM 26 10,jK 27 1 26,jB 28 .lss 25 27] (kE 28 0)) (.seq (.block 1 (rS [oP 31 (.mk 2 0 [] []),jM 13 31] (.seq (rS [jI 14 0] (.block 2 (.loop (.seq (rS [jM 32 14,jM 33 8,jC 34 100 [.t 33],jB 35 .lss 32 34] (kE 35 2)) (.seq (.block 3 (rS
 [jM 38 10,jM 39 12,jX 40 1 38 39,oP 41 (.load (some 2) none (.t 40)),jM 42 1,jM 43 14,⟨some 44,.call (.c (.fn 101 [])) [.t 42,.t 43],none,[2]⟩,jB 45 .sub 41 44,jM 15 45] (.seq (rS [jM 46 12,jM 47 11,jB 48 .eql 46 47,jM 49 48,oG 50 49 false (.mov (.t 0)),oG 51 49 false (.bin .eql
 (.t 50) (cI 1)),oG 52 49 false (.mov (.t 51)),oG 53 52 true (.mov (.t 15)),oG 54 52 true (.bin .rem (.t 53) (cI 2)),oG 55 52 true (.bin .neq (.t 54) (cI 0)),oG 56 49 false (.pick (.t 52) (.t 55) (.c (.bool false))),jP 57 49 56 true] (.cond (.t 57) (.seq (rS [jM 58 11,jD 59 .lss 58 0] (.cond
 (.t 59) (rS [jM 60 10,jK 61 1 60,jM 11 61] (.region [jM 62 10,oP 63 (.mk 2 1 [.int .i64 0] [(0,1,cI 0)]),oP 64 (.app 2 1 8 (.t 62) (.t 63)),jM 10 64])) .skip)) (rS [jM 65 13,jM 66 11,oP 67 (.mk 2 1 [.int .i64 0] [(0,1,.t 66)]),oP 68 (.app 2 1 8 (.t 65) (.t 67)),jM 13 68] (.exit 3)))
 .skip)) (rS [jM 69 15,jM 70 15,jD 71 .rem 70 2,jD 72 .add 71 2,jD 73 .rem 72 2,jB 74 .sub 69 73,jD 75 .quo 74 2,jM 16 75] (rS [jI 17 (-1)] (.seq (rS [jI 18 0] (.block 4 (.loop (.seq (rS [jM 76 18,jM 77 10,jK 78 1 77,jB 79 .lss 76 78] (kE 79 4)) (.seq (.block 5 (rS [jM 82 18,jM 83 11,jB
 84 .neq 82 83,jM 85 84,oG 86 85 true (.mov (.t 10)),oG 87 85 true (.mov (.t 18)),oG 88 85 true (.idx 1 (.t 86) (.t 87)),oG 89 85 true (.load none none (.t 88)),oG 90 85 true (.mov (.t 16)),oG 91 85 true (.bin .eql (.t 89) (.t 90)),oP 92 (.pick (.t 85) (.t 91) (.c (.bool false)))] (.cond
 (.t 92) (.region [jM 93 18,jM 17 93]) .skip))) (.region [jM 80 18,jD 81 .add 80 1,jM 18 81])))))) (.seq (rS [jM 94 17,jD 95 .lss 94 0] (.cond (.t 95) (rS [jM 96 10,jK 97 1 96,jM 17 97] (.region [jM 98 10,jM 99 16,oP 100 (.mk 2 1 [.int .i64 0] [(0,1,.t 99)]),oP 101 (.app 2 1 8 (.t 98)
 (.t 100)),jM 10 101])) .skip)) (.region [jM 102 13,jM 103 17,oP 104 (.mk 2 1 [.int .i64 0] [(0,1,.t 103)]),oP 105 (.app 2 1 8 (.t 102) (.t 104)),jM 13 105])))))))) (.region [jM 36 14,jD 37 .add 36 1,jM 14 37])))))) (.seq (rS [jM 106 10,jK 107 1 106,jD 108 .gtr 107 1000] (.cond (.t 108)
 (rS [jY 109,jW 4 6 109,jI 7 3] .ret) .skip)) (rS [jA 110 2 9,jL 111 110,jM 112 12,jM 113 11,jB 114 .neq 112 113,jM 115 114,oG 116 115 true (.mov (.t 10)),oG 117 115 true (.mov (.t 12)),oG 118 115 true (.idx 1 (.t 116) (.t 117)),oG 119 115 true (.load none none (.t 118)),oG 120 115 true
 (.bin .eql (.t 119) (cI 0)),oG 121 115 true (.mov (.t 120)),oG 122 121 false (.mov (.t 0)),oG 123 121 false (.bin .eql (.t 122) (cI 2)),oG 124 121 false (.mov (.t 123)),oG 125 124 true (.mov (.t 10)),oG 126 124 true (.mov (.t 12)),oG 127 124 true (.idx 1 (.t 125) (.t 126)),oG 128 124 true
 (.load none none (.t 127)),oG 129 124 true (.bin .gtr (.t 128) (cI 0)),oG 130 121 false (.pick (.t 124) (.t 129) (.c (.bool false))),oG 131 115 true (.pick (.t 121) (.c (.bool true)) (.t 130)),oP 132 (.pick (.t 115) (.t 131) (.c (.bool false))),oP 133 (.mk 4 1 [.bool false] [(0,1,.t 132)]),
 oP 134 (.app 4 1 1 (.t 111) (.t 133)),jA 135 2 9,jW 1 135 134] (.region [jA 136 3 9,jL 137 136,jM 138 13,oP 139 (.mk 36 1 [.nils] [(0,1,.t 138)]),oP 140 (.app 36 1 24 (.t 137) (.t 139)),jA 141 3 9,jW 1 141 140])))))) (.region [jM 29 12,jD 30 .add 29 1,jM 12 30])))))) (rS [jQ 142 9,jW
 4 6 142,jI 7 0] .ret))))))⟩
def ir50:aM:=⟨[.cell 2 (some 4),.tmp 3],rS [jT 1 25 0,jZ 2 25,jI 3 0] (.seq (rS [jA 4 2 1,jL 5 4,jK 6 1 5,jD 7 .gtr 6 150] (.cond (.t 7) (rS [jY 8,jW 4 2 8,jI 3 3] .ret) .skip)) (rS [jQ 9 1,jW 4 2 9,jI 3 0] .ret))⟩
def ir51:aM:=⟨[.cell 0 (some 4)],rS [jZ 0 25] (rS [oP 1 (.mk 4 2 [.bool false,.bool false] [(0,1,.c (.bool true)),(1,1,.c (.bool false))]),oP 2 (.mk 2 2 [.int .i64 0,.int .i64 0] [(0,1,cI 1),(1,1,cI 0)]),oP 3 (.mk 2 2 [.int .i64 0,.int .i64 0] [(0,1,cI 1),(1,1,cI 0)]),oP
 4 (.mk 36 2 [.nils,.nils] [(0,1,.t 2),(1,1,.t 3)]),oP 5 (.build [.int .i64 0,.int .i64 0,.nils,.nils] [(0,1,cI 1),(2,1,.t 1),(3,1,.t 4)]),jT 6 25 5,jC 7 102 [.t 6],jW 4 0 7] .ret)⟩
def ir52:aM:=⟨[.cell 4 (some 4),.tmp 5],rS [jZ 4 25,jI 5 0] (rS [jM 10 0,jN 11 10,jA 12 0 11,jQ 13 12,jC 14 103 [.t 13],jM 9 14,jE 15 0 9,jE 16 1 9,jZ 6 25,jW 4 6 15,jM 7 16] (.seq (rS [jI 8 1] (.block 0 (.loop (.seq (rS [jM 17 8,jM 18 1,jB 19 .lss 17 18,jM 20 19,oG 21 20
 true (.mov (.t 7)),oG 22 20 true (.bin .eql (.t 21) (cI 0)),oP 23 (.pick (.t 20) (.t 22) (.c (.bool false)))] (kE 23 0)) (.seq (.block 1 (.region [jM 27 0,jN 28 27,jA 29 0 28,jQ 30 29,jQ 31 6,jC 32 104 [.t 30,.t 31],jM 26 32,jE 33 0 26,jE 34 1 26,jW 4 6 33,jM 7 34])) (.region [jM 24
 8,jD 25 .add 24 1,jM 8 25])))))) (rS [jQ 35 6,jM 36 7,jW 4 4 35,jM 5 36] .ret)))⟩
def ir53:aM:=⟨[.cell 4 (some 4),.tmp 5],rS [jT 2 25 0,jT 3 25 1,jZ 4 25,jI 5 0] (rS [jC 6 105 [.t 2,.t 3,cI 1],jE 7 0 6,jE 8 1 6,jW 4 4 7,jM 5 8] .ret)⟩
def ir55:aM:=⟨[.tmp 4],rS [jF 4 false] (.seq (rS [jM 6 0,jK 7 1 6,jM 8 1,jK 9 1 8,jB 10 .neq 7 9] (.cond (.t 10) (rS [jF 4 false] .ret) .skip)) (.seq (rS [jI 5 0] (.block 0 (.loop (.seq (rS [jM 11 5,jM 12 0,jK 13 1 12,jB 14 .lss 11 13] (kE 14 0)) (.seq (.block 1 (rS [jM 17 0,jM 18 5,
 jX 19 1 17 18,jL 20 19,jM 21 1,jM 22 5,jX 23 1 21 22,jL 24 23,jB 25 .neq 20 24] (.cond (.t 25) (rS [jF 4 false] .ret) .skip))) (.region [jM 15 5,jD 16 .add 15 1,jM 5 16])))))) (rS [jF 4 true] .ret)))⟩
def ir56:aM:=⟨[.tmp 2],rS [jF 2 false] (rS [jM 3 0,jC 4 45 [.t 3,cI 0,cI 1000000000],jM 2 4] .ret)⟩
def ir58:aM:=⟨[.tmp 2],rS [jT 1 25 0,jF 2 false] (rS [jA 8 2 1,jL 9 8,jK 10 1 9,jM 3 10] (.seq (rS [jA 11 0 1,jL 12 11,jC 13 46 [.t 12],jJ 14 13,jM 15 14,oG 16 15 false (.mov (.t 3)),oG 17 15 false (.call (.c (.fn 45 [])) [.t 16,cI 1,cI 150]),oG 18 15 false (.not (.t 17)),jP 19
 15 18 true,jM 20 19,oG 21 20 false (.lea 3 (.t 1)),oG 22 20 false (.load none none (.t 21)),oG 23 20 false (.len 1 (.t 22)),oG 24 20 false (.mov (.t 3)),oG 25 20 false (.bin .neq (.t 23) (.t 24)),jP 26 20 25 true,jM 27 26,oG 28 27 false (.lea 1 (.t 1)),oG 29 27 false (.load none none (.t
 28)),oG 30 27 false (.mov (.t 3)),oG 31 27 false (.bin .sub (.t 30) (cI 1)),oG 32 27 false (.call (.c (.fn 45 [])) [.t 29,cI 0,.t 31]),oG 33 27 false (.not (.t 32)),jP 34 27 33 true] (.cond (.t 34) (rS [jF 2 false] .ret) .skip)) (.seq (rS [jA 35 3 1,jL 36 35,jK 37 1 36,jI 38 0] (.block 0
 (.loop (rS [jB 39 .lss 38 37] (.seq (kE 39 0) (.seq (.block 1 (rS [jX 40 1 36 38,jL 41 40,jM 5 41] (.seq (rS [jM 42 5,jK 43 1 42,jA 44 0 1,jL 45 44,jC 46 94 [.t 45],jB 47 .neq 43 46] (.cond (.t 47) (rS [jF 2 false] .ret) .skip)) (rS [jM 48 5,jK 49 1 48,jI 50 0] (.block 2 (.loop (rS [jB 51
 .lss 50 49] (.seq (kE 51 2) (.seq (.block 3 (rS [jX 52 1 48 50,jL 53 52,jM 7 53] (rS [jM 54 7,jM 55 3,jD 56 .sub 55 1,jC 57 45 [.t 54,cI 0,.t 56],jJ 58 57] (.cond (.t 58) (rS [jF 2 false] .ret) .skip)))) (.region [jD 59 .add 50 1,jM 50 59])))))))))) (.region [jD 60 .add 38 1,jM 38
 60]))))))) (rS [jF 2 true] .ret))))⟩
def ir60:aM:=⟨[.cell 2 (some 4)],rS [jT 1 25 0,jZ 2 77] (rS [jA 9 0 1,oP 10 (.load (some 25) none (.t 9)),jA 11 1 1,oP 12 (.load (some 25) none (.t 11)),jA 13 2 1,jL 14 13,⟨some 15,.call (.c (.fn 106 [])) [.t 14],none,[25]⟩,oP 16 (.build [.int .i64 0,.int .i64 0,.nils,.nils]
 [(0,1,.t 10),(1,1,.t 12),(2,1,.t 15)]),jZ 3 77,jW 4 3 16] (.seq (rS [jA 17 3 1,jL 18 17,jK 19 1 18,jI 20 0] (.block 0 (.loop (rS [jB 21 .lss 20 19] (.seq (kE 21 0) (.seq (.block 1 (rS [jX 22 1 18 20,jL 23 22,jM 5 23] (rS [oP 6 (.mov (.c .nils))] (.seq (rS [jM 24 5,jK 25 1 24,jI 26
 0] (.block 2 (.loop (rS [jB 27 .lss 26 25] (.seq (kE 27 2) (.seq (.block 3 (rS [jX 28 1 24 26,jL 29 28,jM 8 29] (.region [jM 30 6,jM 31 8,oP 32 (.mk 3 1 [.int .i64 0] [(0,1,.t 31)]),oP 33 (.app 3 1 8 (.t 30) (.t 32)),jM 6 33]))) (.region [jD 34 .add 26 1,jM 26 34]))))))) (.region [jA 35 3
 3,jL 36 35,jM 37 6,oP 38 (.mk 80 1 [.nils] [(0,1,.t 37)]),oP 39 (.app 80 1 24 (.t 36) (.t 38)),jA 40 3 3,jW 1 40 39]))))) (.region [jD 41 .add 20 1,jM 20 41]))))))) (rS [jQ 42 3,jW 4 2 42] .ret)))⟩
def ir65:aM:=⟨[.tmp 2],rS [jI 2 0] (rS [jI 3 0] (.seq (rS [jM 5 0,jK 6 0 5,jD 7 .sub 6 1,jM 4 7] (.block 0 (.loop (.seq (rS [jM 8 4,jD 9 .geq 8 0] (kE 9 0)) (.seq (.block 1 (.region [jM 12 3,oP 13 (.bin .mul (cI 2) (.t 12)),jM 14 0,jM 15 4,oP 16 (.idxs (.t 14) (.t 15)),oP 17 (.bin
 .sub (.t 16) (.c (.int .u8 97))),oP 18 (.conv .i64 (.t 17)),jB 19 .add 13 18,jM 3 19])) (.region [jM 10 4,jD 11 .sub 10 1,jM 4 11])))))) (rS [jM 20 3,jM 2 20] .ret)))⟩
def ir66:aM:=⟨[.cell 10 (some 4),.tmp 11],rS [jZ 10 77,jF 11 false] (rS [jM 22 0,oP 23 (.build [.int .i64 0,.int .i64 0,.nils,.nils] [(0,1,.t 22)]),jZ 12 77,jW 4 12 23] (rS [oP 24 .mkmap,jM 25 1,oS (.mset 0 (.t 24) (.t 25) (cI 0)),jM 26 24,jM 13 26] (rS [jM 27 1,oP 28 (.mk 3 1
 [.int .i64 0] [(0,1,.t 27)]),jM 14 28] (.seq (rS [jI 15 0] (.block 0 (.loop (.seq (rS [jM 29 15,jM 30 14,jK 31 1 30,jB 32 .lss 29 31] (kE 32 0)) (.seq (.block 1 (rS [jM 35 14,jM 36 15,jX 37 1 35 36,jL 38 37,jM 16 38] (rS [oP 17 (.mov (.c .nils))] (.seq (rS [jI 18 0] (.block 2 (.loop
 (.seq (rS [jM 39 18,jM 40 0,jC 41 94 [.t 40],jB 42 .lss 39 41] (kE 42 2)) (.seq (.block 3 (rS [jM 45 4,jM 46 16,jM 47 18,oP 48 (.call (.t 45) [.t 46,.t 47]),jM 19 48] (rS [jM 50 13,jM 51 19,oP 52 (.look 0 true (.int .i64 0) (.t 50) (.t 51)),jM 49 52,jE 53 0 49,jE 54 1 49,jM 20 53,jM
 21 54] (.seq (rS [jM 55 21,jJ 56 55] (.cond (.t 56) (rS [jM 57 14,jK 58 1 57,jM 20 58] (rS [jM 59 13,jM 60 19,jM 61 20,oS (.mset 0 (.t 59) (.t 60) (.t 61))] (rS [jM 62 14,jM 63 19,oP 64 (.mk 3 1 [.int .i64 0] [(0,1,.t 63)]),oP 65 (.app 3 1 8 (.t 62) (.t 64)),jM 14 65] (rS [jM 66 2,jD
 67 .gtr 66 0,jM 68 67,oG 69 68 true (.mov (.t 14)),oG 70 68 true (.len 1 (.t 69)),oG 71 68 true (.mov (.t 2)),oG 72 68 true (.bin .gtr (.t 70) (.t 71)),oP 73 (.pick (.t 68) (.t 72) (.c (.bool false)))] (.cond (.t 73) (rS [jY 74,jW 4 10 74,jF 11 false] .ret) .skip))))) .skip)) (.region [jM
 75 17,jM 76 20,oP 77 (.mk 3 1 [.int .i64 0] [(0,1,.t 76)]),oP 78 (.app 3 1 8 (.t 75) (.t 77)),jM 17 78]))))) (.region [jM 43 18,jD 44 .add 43 1,jM 18 44])))))) (rS [jA 79 2 12,oP 80 (.load (some 77) none (.t 79)),jM 81 3,jM 82 16,⟨some 83,.call (.t 81) [.t 82],none,[77]⟩,oP 84 (.mk
 4 1 [.bool false] [(0,1,.t 83)]),oP 85 (.app 4 1 1 (.t 80) (.t 84)),jA 86 2 12,jW 1 86 85] (.region [jA 87 3 12,jL 88 87,jM 89 17,oP 90 (.mk 80 1 [.nils] [(0,1,.t 89)]),oP 91 (.app 80 1 24 (.t 88) (.t 90)),jA 92 3 12,jW 1 92 91])))))) (.region [jM 33 15,jD 34 .add 33 1,jM 15
 34])))))) (rS [jQ 93 12,jW 4 10 93,jF 11 true] .ret)))))⟩
def ir67:aM:=⟨[.tmp 2],rS [jF 2 false] (rS [jM 3 0,jD 4 .eql 3 1,jM 2 4] .ret)⟩
def ir68:aM:=⟨[.tmp 4],rS [jI 4 0] (rS [jM 5 1,jM 4 5] .ret)⟩
def ir69:aM:=⟨[.cell 2 (some 4),.tmp 3],rS [jT 1 77 0,jZ 2 25,jI 3 0] (rS [jQ 4 1,jC 5 110 [.t 4],jC 6 111 [.t 5],jE 7 0 6,jE 8 1 6,jW 4 2 7,jM 3 8] .ret)⟩
def ir70:aM:=⟨[.cell 4 (some 4),.tmp 5],rS [jT 2 25 0,jZ 4 25,jI 5 0] (.seq (rS [jQ 9 2,jM 10 1,jC 11 112 [.t 9,.t 10],jM 6 11] (rS [jM 12 6,jD 13 .neq 12 0] (.cond (.t 13) (rS [jY 14,jM 15 6,jW 4 4 14,jM 5 15] .ret) .skip))) (rS [jQ 17 2,jC 18 113 [.t 17],jM 19 1,jC 20 114 [.t
 18,.t 19],jM 16 20,jE 21 0 16,jE 22 1 16,jZ 7 77,jW 4 7 21,jM 8 22] (.seq (rS [jM 23 8,jJ 24 23] (.cond (.t 24) (rS [jY 25,jW 4 4 25,jI 5 3] .ret) .skip)) (rS [jQ 26 7,jC 27 69 [.t 26],jE 28 0 27,jE 29 1 27,jW 4 4 28,jM 5 29] .ret))))⟩
def ir71:aM:=⟨[.tmp 4],rS [jI 4 0] (rS [jM 5 1,jM 6 0,jK 7 1 6,jB 8 .sub 5 7,jM 1 8] (.seq (rS [jM 9 1,jD 10 .lss 9 0] (.cond (.t 10) (rS [jI 4 (-1)] .ret) .skip)) (rS [jM 11 1,jM 4 11] .ret)))⟩
def ir72:aM:=⟨[.tmp 4],rS [jI 4 0] (rS [jM 6 1,jM 7 0,jK 8 1 7,jB 9 .sub 6 8,jM 1 9] (.seq (rS [jM 10 1,jD 11 .lss 10 0] (.cond (.t 11) (rS [jI 4 (-1)] .ret) .skip)) (.seq (rS [jI 5 0] (.block 0 (.loop (.seq (rS [jM 12 5,jM 13 0,jK 14 1 13,jB 15 .lss 12 14] (kE 15 0)) (.seq (.block 1
 (rS [jM 18 0,jM 19 5,jX 20 1 18 19,jL 21 20,jM 22 1,jC 23 115 [.t 21,.t 22],jM 1 23] (rS [jM 24 1,jD 25 .lss 24 0] (.cond (.t 25) (rS [jI 4 (-1)] .ret) .skip)))) (.region [jM 16 5,jD 17 .add 16 1,jM 5 17])))))) (rS [jM 26 1,jM 4 26] .ret))))⟩
def ir73:aM:=⟨[.tmp 2],rS [jI 2 0] (.seq (rS [jM 3 0,jC 4 116 [.t 3],jJ 5 4] (.cond (.t 5) (rS [jI 2 1] .ret) .skip)) (.seq (rS [jM 6 0,jC 7 117 [.t 6],jJ 8 7] (.cond (.t 8) (rS [jI 2 4] .ret) .skip)) (rS [jI 2 0] .ret)))⟩
def ir74:aM:=⟨[.cell 4 (some 4),.tmp 5],rS [jZ 4 25,jI 5 0] (rS [jM 15 0,jN 16 15,jQ 17 16,jC 18 118 [.t 17,cI 1],jM 14 18,jE 19 0 14,jE 20 1 14,jZ 6 25,jW 4 6 19,jM 7 20] (.seq (rS [jM 21 7,jD 22 .neq 21 0] (.cond (.t 22) (rS [jY 23,jM 24 7,jW 4 4 23,jM 5 24] .ret) .skip))
 (rS [jQ 26 6,jC 27 119 [.t 26,cI 0,cI 1],jM 25 27,jE 28 0 25,jE 29 1 25,jZ 8 25,jW 4 8 28,jM 9 29] (.seq (rS [jM 30 9,jD 31 .neq 30 0] (.cond (.t 31) (rS [jY 32,jM 33 9,jW 4 4 32,jM 5 33] .ret) .skip)) (rS [oP 35 (.mk 2 2 [.int .i64 0,.int .i64 0] [(0,1,cI 1),(1,1,cI (-1))]),jM
 36 1,oP 37 (.neg (.t 36)),jC 38 18 [cI 1,.t 35,.t 37],jM 34 38,jE 39 0 34,jE 40 1 34,jZ 10 25,jW 4 10 39,jM 11 40] (.seq (rS [jM 41 11,jD 42 .neq 41 0] (.cond (.t 42) (rS [jY 43,jM 44 11,jW 4 4 43,jM 5 44] .ret) .skip)) (rS [jQ 46 8,jQ 47 10,jC 48 120 [.t 46,.t 47],jM 45 48,jE
 49 0 45,jE 50 1 45,jZ 12 25,jW 4 12 49,jM 13 50] (.seq (rS [jM 51 13,jD 52 .neq 51 0] (.cond (.t 52) (rS [jY 53,jM 54 13,jW 4 4 53,jM 5 54] .ret) .skip)) (rS [jQ 55 12,jC 56 121 [.t 55,cI 0],jE 57 0 56,jE 58 1 56,jW 4 4 57,jM 5 58] .ret)))))))))⟩
def ir75:aM:=⟨[.tmp 2],rS [oP 2 (.mov (.c .nils))] (rS [jM 5 0,jK 6 1 5,oP 7 (.mksl 4 1 [.bool false] (.t 6) (.t 6)),jM 3 7] (.seq (rS [jI 4 0] (.block 0 (.loop (.seq (rS [jM 8 4,jM 9 0,jK 10 1 9,jB 11 .lss 8 10] (kE 11 0)) (.seq (.block 1 (.region [jM 14 3,jM 15 4,jM 16 0,jM 17 4,
 jX 18 1 16 17,jL 19 18,jX 20 1 14 15,jW 1 20 19])) (.region [jM 12 4,jD 13 .add 12 1,jM 4 13])))))) (rS [jM 21 3,jM 2 21] .ret)))⟩
def ir76:aM:=⟨[.tmp 2],rS [oP 2 (.mov (.c .nils))] (rS [jM 5 0,jK 6 1 5,oP 7 (.mksl 36 24 [.nils] (.t 6) (.t 6)),jM 3 7] (.seq (rS [jI 4 0] (.block 0 (.loop (.seq (rS [jM 8 4,jM 9 0,jK 10 1 9,jB 11 .lss 8 10] (kE 11 0)) (.seq (.block 1 (.region [jM 14 3,jM 15 4,jM 16 0,jM 17 4,jX
 18 1 16 17,jL 19 18,jC 20 122 [.t 19],jX 21 1 14 15,jW 1 21 20])) (.region [jM 12 4,jD 13 .add 12 1,jM 4 13])))))) (rS [jM 22 3,jM 2 22] .ret)))⟩
def ir77:aM:=⟨[.tmp 2],rS [jI 2 0] (.seq (rS [jM 7 0,jK 8 1 7,jI 9 0] (.block 0 (.loop (rS [jB 10 .lss 9 8] (.seq (kE 10 0) (.seq (.block 1 (rS [jX 11 4 7 9,jQ 12 11,jZ 4 25,jW 4 4 12] (rS [jQ 13 4,jC 14 58 [.t 13],jJ 15 14] (.cond (.t 15) (rS [jI 2 1] .ret) .skip)))) (.region [jD 16
 .add 9 1,jM 9 16]))))))) (.seq (rS [jM 17 0,jK 18 1 17,jI 19 0] (.block 2 (.loop (rS [jB 20 .lss 19 18] (.seq (kE 20 2) (.seq (.block 3 (rS [jX 21 4 17 19,jQ 22 21,jZ 6 25,jW 4 6 22] (rS [jQ 23 6,jC 24 123 [.t 23],jJ 25 24] (.cond (.t 25) (rS [jI 2 4] .ret) .skip)))) (.region [jD 26 .add
 19 1,jM 19 26]))))))) (rS [jI 2 0] .ret)))⟩
def ir78:aM:=⟨[.cell 4 (some 4),.tmp 5],rS [jT 2 25 0,jZ 4 25,jI 5 0] (rS [jQ 11 2,oP 12 (.mk 66 2 [.nilf,.nilf] [(0,1,.c (.fn 125 [])),(1,1,.c (.fn 127 []))]),jC 13 124 [.t 11,.t 12],jM 10 13,jE 14 0 10,jE 15 1 10,jZ 6 25,jW 4 6 14,jM 7 15] (.seq (rS [jM 16 7,jD 17 .neq
 16 0] (.cond (.t 17) (rS [jY 18,jM 19 7,jW 4 4 18,jM 5 19] .ret) .skip)) (rS [oP 21 (.mk 2 2 [.int .i64 0,.int .i64 0] [(0,1,cI 1),(1,1,cI (-1))]),jM 22 1,oP 23 (.neg (.t 22)),jC 24 47 [cI 1,.t 21,.t 23],jM 20 24,jE 25 0 20,jE 26 1 20,jZ 8 25,jW 4 8 25,jM 7 26] (.seq (rS [jM 27
 7,jD 28 .neq 27 0] (.cond (.t 28) (rS [jY 29,jM 30 7,jW 4 4 29,jM 5 30] .ret) .skip)) (rS [jQ 32 6,jQ 33 8,jC 34 129 [.t 32,.t 33],jM 31 34,jE 35 0 31,jE 36 1 31,jZ 9 25,jW 4 9 35,jM 7 36] (.seq (rS [jM 37 7,jD 38 .neq 37 0] (.cond (.t 38) (rS [jY 39,jM 40 7,jW 4 4 39,jM 5 40]
 .ret) .skip)) (rS [jQ 41 9,jC 42 70 [.t 41,cI 0],jE 43 0 42,jE 44 1 42,jW 4 4 43,jM 5 44] .ret)))))))⟩
def ir79:aM:=⟨[.tmp 4],rS [jF 4 false] (.seq (rS [jM 6 0,jK 7 1 6,jM 8 1,jK 9 1 8,jB 10 .neq 7 9] (.cond (.t 10) (rS [jF 4 false] .ret) .skip)) (.seq (rS [jI 5 0] (.block 0 (.loop (.seq (rS [jM 11 5,jM 12 0,jK 13 1 12,jB 14 .lss 11 13] (kE 14 0)) (.seq (.block 1 (rS [jM 17 0,jM 18 5,
 jX 19 1 17 18,jL 20 19,jM 21 1,jM 22 5,jX 23 1 21 22,jL 24 23,oP 25 (.beq true (.t 20) (.t 24))] (.cond (.t 25) (rS [jF 4 false] .ret) .skip))) (.region [jM 15 5,jD 16 .add 15 1,jM 5 16])))))) (rS [jF 4 true] .ret)))⟩
def ir80:aM:=⟨[.tmp 4],rS [jF 4 false] (.seq (rS [jM 6 0,jK 7 1 6,jM 8 1,jK 9 1 8,jB 10 .neq 7 9] (.cond (.t 10) (rS [jF 4 false] .ret) .skip)) (.seq (rS [jI 5 0] (.block 0 (.loop (.seq (rS [jM 11 5,jM 12 0,jK 13 1 12,jB 14 .lss 11 13] (kE 14 0)) (.seq (.block 1 (rS [jM 17 0,jM 18 5,
 jX 19 1 17 18,jL 20 19,jM 21 1,jM 22 5,jX 23 1 21 22,jL 24 23,jC 25 130 [.t 20,.t 24],jJ 26 25] (.cond (.t 26) (rS [jF 4 false] .ret) .skip))) (.region [jM 15 5,jD 16 .add 15 1,jM 5 16])))))) (rS [jF 4 true] .ret)))⟩
def ir85:aM:=⟨[.cell 4 (some 4),.tmp 5],rS [jZ 4 25,jI 5 0] (rS [jM 13 0,jM 14 1,oP 15 (.neg (.t 14)),jC 16 74 [.t 13,.t 15],jM 12 16,jE 17 0 12,jE 18 1 12,jZ 6 25,jW 4 6 17,jM 7 18] (.seq (rS [jM 19 7,jD 20 .neq 19 0] (.cond (.t 20) (rS [jY 21,jM 22 7,jW 4 4 21,jM 5 22]
 .ret) .skip)) (rS [jM 24 0,jN 25 24,jQ 26 25,jQ 27 6,jC 28 133 [.t 26,.t 27],jM 23 28,jE 29 0 23,jE 30 1 23,jZ 8 25,jW 4 8 29,jM 9 30] (.seq (rS [jM 31 9,jD 32 .neq 31 0] (.cond (.t 32) (rS [jY 33,jM 34 9,jW 4 4 33,jM 5 34] .ret) .skip)) (rS [jM 36 0,jN 37 36,jQ 38 37,jQ 39 6,jC
 40 53 [.t 38,.t 39],jM 35 40,jE 41 0 35,jE 42 1 35,jZ 10 25,jW 4 10 41,jM 11 42] (.seq (rS [jM 43 11,jD 44 .neq 43 0] (.cond (.t 44) (rS [jY 45,jM 46 11,jW 4 4 45,jM 5 46] .ret) .skip)) (rS [jQ 47 8,jQ 48 10,jC 49 134 [.t 47,.t 48],jE 50 0 49,jE 51 1 49,jW 4 4 50,jM 5 51]
 .ret)))))))⟩
def ir87:aM:=⟨[.cell 4 (some 4),.tmp 5],rS [jT 2 25 0,jZ 4 25,jI 5 0] (rS [jQ 11 2,jM 12 1,oP 13 (.neg (.t 12)),jC 14 78 [.t 11,.t 13],jM 10 14,jE 15 0 10,jE 16 1 10,jZ 6 25,jW 4 6 15,jM 7 16] (.seq (rS [jM 17 7,jD 18 .neq 17 0] (.cond (.t 18) (rS [jY 19,jM 20 7,jW 4 4 19,jM
 5 20] .ret) .skip)) (rS [jQ 22 2,jQ 23 6,jC 24 136 [.t 22,.t 23],jM 21 24,jE 25 0 21,jE 26 1 21,jZ 8 25,jW 4 8 25,jM 7 26] (.seq (rS [jM 27 7,jD 28 .neq 27 0] (.cond (.t 28) (rS [jY 29,jM 30 7,jW 4 4 29,jM 5 30] .ret) .skip)) (rS [jQ 32 2,jQ 33 6,jC 34 137 [.t 32,.t 33],jM 31 34,
 jE 35 0 31,jE 36 1 31,jZ 9 25,jW 4 9 35,jM 7 36] (.seq (rS [jM 37 7,jD 38 .neq 37 0] (.cond (.t 38) (rS [jY 39,jM 40 7,jW 4 4 39,jM 5 40] .ret) .skip)) (rS [jQ 41 8,jQ 42 9,jC 43 138 [.t 41,.t 42],jE 44 0 43,jE 45 1 43,jW 4 4 44,jM 5 45] .ret)))))))⟩
def ir88:aM:=⟨[.cell 8 (some 4),.tmp 9],rS [jT 4 25 0,jT 6 25 2,jZ 8 25,jI 9 0] (.seq (.block 0 (rS [jM 11 1,jD 12 .neq 11 0,jM 10 12] (.cond (.t 10) (rS [jY 13,jM 14 1,jW 4 8 13,jM 9 14] .ret) (rS [jM 16 3,jD 17 .neq 16 0,jM 15 17] (.cond (.t 15) (rS [jY 18,jM 19 3,jW 4 8 18,
 jM 9 19] .ret) .skip))))) (rS [jQ 20 4,jQ 21 6,jC 22 137 [.t 20,.t 21],jE 23 0 22,jE 24 1 22,jW 4 8 23,jM 9 24] .ret))⟩
def ir90:aM:=⟨[.tmp 4,.tmp 5],rS [jI 4 0,jI 5 0] (rS [jM 12 0,jC 13 102 [.t 12],jZ 6 25,jW 4 6 13] (.seq (rS [jC 15 135 [.t 6],jM 14 15,jE 16 0 14,jE 17 1 14,jM 7 16,jM 8 17] (rS [jM 18 8,jJ 19 18] (.cond (.t 19) (rS [jI 4 0,jI 5 6] .ret) .skip))) (.seq (rS [jM 20 1,jM 21 20,oG
 22 21 true (.call (.c (.fn 140 [])) [.t 6]),oG 23 21 true (.not (.t 22)),oP 24 (.pick (.t 21) (.t 23) (.c (.bool false)))] (.cond (.t 24) (rS [jI 4 0,jI 5 4] .ret) .skip)) (rS [jM 26 1,jC 27 141 [.t 6,.t 26],jM 25 27,jE 28 0 25,jE 29 1 25,jM 9 28,jM 10 29] (.seq (rS [jM 30 10,jD 31 .neq
 30 0] (.cond (.t 31) (rS [jM 32 10,jI 4 0,jM 5 32] .ret) .skip)) (rS [jM 33 9,jC 34 142 [.t 33],jM 11 34] (.seq (rS [jM 35 11,jD 36 .gtr 35 1000000000] (.cond (.t 36) (rS [jI 4 0,jI 5 2] .ret) .skip)) (rS [jM 37 11,jM 4 37,jI 5 0] .ret))))))))⟩
def ir91:aM:=⟨[.tmp 2,.tmp 3],rS [jT 1 25 0,jI 2 0,jI 3 0] (rS [jQ 13 1,jC 14 113 [.t 13],jZ 4 77,jW 4 4 14] (.seq (rS [jQ 15 4,jC 16 139 [.t 15]] (.cond (.t 16) (rS [jI 2 0,jI 3 6] .ret) .skip)) (.seq (rS [jQ 18 4,jC 19 143 [.t 18],jM 17 19,jE 20 0 17,jE 21 1 17,jM 5 20,jM 6
 21] (rS [jM 22 6,jJ 23 22] (.cond (.t 23) (rS [jI 2 0,jI 3 4] .ret) .skip))) (rS [jI 7 0] (rS [jA 24 1 4,jL 25 24,oP 26 (.mk 3 1 [.int .i64 0] [(0,1,.t 25)]),jM 8 26] (.seq (rS [jI 9 0] (.block 0 (.loop (.seq (rS [jM 27 9,jA 28 2 4,jL 29 28,jK 30 1 29,jB 31 .leq 27 30] (kE 31 0)) (.seq
 (.block 1 (rS [oP 10 (.mov (.c .nils))] (.seq (rS [jM 34 8,jK 35 1 34,jI 36 0] (.block 2 (.loop (rS [jB 37 .lss 36 35] (.seq (kE 37 2) (.seq (.block 3 (rS [jX 38 1 34 36,jL 39 38,jM 12 39] (.seq (rS [jA 40 2 4,jL 41 40,jM 42 12,jX 43 1 41 42,jL 44 43] (.cond (.t 44) (.region [jM 45 9,jM 7
 45]) .skip)) (.region [jM 46 10,jA 47 3 4,jL 48 47,jM 49 12,jX 50 1 48 49,jL 51 50,oP 52 (.idx 1 (.t 51) (cI 0)),jL 53 52,jA 54 3 4,jL 55 54,jM 56 12,jX 57 1 55 56,jL 58 57,oP 59 (.idx 1 (.t 58) (cI 1)),jL 60 59,oP 61 (.mk 3 2 [.int .i64 0,.int .i64 0] [(0,1,.t 53),(1,1,.t
 60)]),oP 62 (.app 3 1 8 (.t 46) (.t 61)),jM 10 62])))) (.region [jD 63 .add 36 1,jM 36 63]))))))) (rS [jM 64 10,jC 65 144 [.t 64]] (.region [jM 66 10,jC 67 145 [.t 66],jM 8 67]))))) (.region [jM 32 9,jD 33 .add 32 1,jM 9 33])))))) (rS [jQ 68 4,jM 69 7,jC 70 147 [.t 68,.t 69,.c (.bool
 true)],jC 71 146 [.t 70],jE 72 0 71,jE 73 1 71,jM 2 72,jM 3 73] .ret)))))))⟩
def ir94:aM:=⟨[.tmp 2],rS [jI 2 0] (rS [jM 3 0,jC 4 148 [.t 3],jD 5 .sub 4 1,jM 2 5] .ret)⟩
def ir95:aM:=⟨[.tmp 4],rS [oP 4 (.mov (.c .nils))] (rS [oP 5 (.mov (.c .nils))] (.seq (.block 0 (.loop (.seq (rS [jM 6 0,jD 7 .gtr 6 0] (kE 7 0)) (.seq (.block 1 (rS [jM 10 5,jM 11 1,jD 12 .rem 11 3,oP 13 (.mk 3 1 [.int .i64 0] [(0,1,.t 12)]),oP 14 (.app 3 1 8 (.t 10) (.t 13)),jM 5
 14] (.region [jM 15 1,jD 16 .quo 15 3,jM 1 16]))) (.region [jM 8 0,jD 9 .sub 8 1,jM 0 9]))))) (rS [jM 17 5,jM 4 17] .ret)))⟩
def ir96:aM:=⟨[.cell 10 (some 4),.tmp 11],rS [jZ 10 77,jF 11 false] (rS [jM 22 0,oP 23 (.build [.int .i64 0,.int .i64 0,.nils,.nils] [(0,1,.t 22)]),jZ 12 77,jW 4 12 23] (rS [oP 24 .mkmap,jM 25 1,oS (.mset 0 (.t 24) (.t 25) (cI 0)),jM 26 24,jM 13 26] (rS [jM 27 1,oP 28 (.mk 2 1
 [.int .i64 0] [(0,1,.t 27)]),jM 14 28] (.seq (rS [jI 15 0] (.block 0 (.loop (.seq (rS [jM 29 15,jM 30 14,jK 31 1 30,jB 32 .lss 29 31] (kE 32 0)) (.seq (.block 1 (rS [jM 35 14,jM 36 15,jX 37 1 35 36,jL 38 37,jM 16 38] (rS [oP 17 (.mov (.c .nils))] (.seq (rS [jI 18 0] (.block 2 (.loop
 (.seq (rS [jM 39 18,jM 40 0,jC 41 94 [.t 40],jB 42 .lss 39 41] (kE 42 2)) (.seq (.block 3 (rS [jM 45 4,jM 46 16,jM 47 18,oP 48 (.call (.t 45) [.t 46,.t 47]),jM 19 48] (rS [jM 50 13,jM 51 19,oP 52 (.look 0 true (.int .i64 0) (.t 50) (.t 51)),jM 49 52,jE 53 0 49,jE 54 1 49,jM 20 53,jM
 21 54] (.seq (rS [jM 55 21,jJ 56 55] (.cond (.t 56) (rS [jM 57 14,jK 58 1 57,jM 20 58] (rS [jM 59 13,jM 60 19,jM 61 20,oS (.mset 0 (.t 59) (.t 60) (.t 61))] (rS [jM 62 14,jM 63 19,oP 64 (.mk 2 1 [.int .i64 0] [(0,1,.t 63)]),oP 65 (.app 2 1 8 (.t 62) (.t 64)),jM 14 65] (rS [jM 66 2,jD
 67 .gtr 66 0,jM 68 67,oG 69 68 true (.mov (.t 14)),oG 70 68 true (.len 1 (.t 69)),oG 71 68 true (.mov (.t 2)),oG 72 68 true (.bin .gtr (.t 70) (.t 71)),oP 73 (.pick (.t 68) (.t 72) (.c (.bool false)))] (.cond (.t 73) (rS [jY 74,jW 4 10 74,jF 11 false] .ret) .skip))))) .skip)) (.region [jM
 75 17,jM 76 20,oP 77 (.mk 3 1 [.int .i64 0] [(0,1,.t 76)]),oP 78 (.app 3 1 8 (.t 75) (.t 77)),jM 17 78]))))) (.region [jM 43 18,jD 44 .add 43 1,jM 18 44])))))) (rS [jA 79 2 12,oP 80 (.load (some 77) none (.t 79)),jM 81 3,jM 82 16,⟨some 83,.call (.t 81) [.t 82],none,[77]⟩,oP 84 (.mk
 4 1 [.bool false] [(0,1,.t 83)]),oP 85 (.app 4 1 1 (.t 80) (.t 84)),jA 86 2 12,jW 1 86 85] (.region [jA 87 3 12,jL 88 87,jM 89 17,oP 90 (.mk 80 1 [.nils] [(0,1,.t 89)]),oP 91 (.app 80 1 24 (.t 88) (.t 90)),jA 92 3 12,jW 1 92 91])))))) (.region [jM 33 15,jD 34 .add 33 1,jM 15
 34])))))) (rS [jQ 93 12,jW 4 10 93,jF 11 true] .ret)))))⟩
def ir97:aM:=⟨[.tmp 3],rS [jF 3 false] (rS [jM 4 0,jD 5 .eql 4 0,jM 6 5,oG 7 6 false (.mov (.t 0)),oG 8 6 false (.bin .gtr (.t 7) (cI 0)),oG 9 6 false (.mov (.t 8)),oG 10 9 true (.mov (.t 0)),oG 11 9 true (.bin .neq (.t 10) (cI 1099511627776)),oG 12 6 false (.pick (.t 9) (.t 11) (.c
 (.bool false))),oG 13 6 false (.mov (.t 12)),oG 14 13 true (.load none none (.t 1)),oG 15 13 true (.bin .eql (.t 14) (cI 2)),oG 16 6 false (.pick (.t 13) (.t 15) (.c (.bool false))),jP 17 6 16 true,jM 3 17] .ret)⟩
def ir98:aM:=⟨[.tmp 6],rS [jI 6 0] (.seq (rS [jM 8 0,jD 9 .eql 8 1099511627776] (.cond (.t 9) (rS [jI 6 1099511627776] .ret) .skip)) (rS [jM 10 0,jL 11 2,jM 12 1,jX 13 1 11 12,jL 14 13,jB 15 .sub 10 14,jM 7 15] (.seq (rS [jL 16 3,jD 17 .eql 16 1,jM 18 17,oG 19 18 true (.mov (.t
 7)),oG 20 18 true (.bin .rem (.t 19) (cI 2)),oG 21 18 true (.bin .neq (.t 20) (cI 0)),oP 22 (.pick (.t 18) (.t 21) (.c (.bool false)))] (.cond (.t 22) (rS [jI 6 1099511627776] .ret) .skip)) (rS [jM 23 7,oP 24 (.bin .shr (.t 23) (.c (.int .u64 1))),jM 6 24] .ret))))⟩
def ir99:aM:=⟨[.cell 2 (some 4),.tmp 3],rS [jZ 2 25,jI 3 0] (rS [jM 7 0,oP 8 (.sslice (.c (.str ⟨#[120,121,122]⟩)) none (some (.t 7))),jC 4 25 [],jC 5 41 [.t 4,.c .nils],oP 6 (.build [.int .i64 0,.int .i64 0,.nils,.nils,.nils] [(0,5,.t 5)]),jC 9 149 [.t 6,.t 8],jE 10 0 9,
 jE 11 1 9,jW 4 2 10,jM 3 11] .ret)⟩
def ir100:aM:=⟨[.tmp 2],rS [jI 2 0] (rS [jM 3 0,jC 4 150 [.t 3],jD 5 .sub 4 1,jM 2 5] .ret)⟩
def ir101:aM:=⟨[.tmp 4],rS [jI 4 0] (rS [jI 5 0] (.seq (rS [jI 6 0] (.block 0 (.loop (.seq (rS [jM 7 6,jM 8 0,jK 9 1 8,jB 10 .lss 7 9] (kE 10 0)) (.seq (.block 1 (rS [jM 13 1,jM 14 6,jC 15 151 [.t 13,.t 14],jD 16 .eql 15 1] (.cond (.t 16) (.region [jM 17 5,jM 18 0,jM 19 6,jX 20 1
 18 19,jL 21 20,jB 22 .add 17 21,jM 5 22]) .skip))) (.region [jM 11 6,jD 12 .add 11 1,jM 6 12])))))) (rS [jM 23 5,jM 4 23] .ret)))⟩
def ir102:aM:=⟨[.cell 2 (some 4)],rS [jZ 2 25] (rS [jM 17 0,jC 18 152 [.t 17],jZ 3 25,jW 4 3 18] (rS [jA 19 2 3,jL 20 19,jK 21 1 20,oP 22 (.mksl 2 8 [.int .i64 0] (.t 21) (.t 21)),jM 4 22] (.seq (rS [jI 5 0] (.block 0 (.loop (.seq (rS [jM 23 5,jA 24 2 3,jL 25 24,jK 26 1 25,jB 27
 .lss 23 26] (kE 27 0)) (.seq (.block 1 (rS [jA 30 2 3,jL 31 30,jM 32 5,jX 33 1 31 32,jL 34 33] (.cond (.t 34) (.region [jM 35 4,jM 36 5,jX 37 1 35 36,oS (.store none 1 (.t 37) (cI 1))]) .skip))) (.region [jM 28 5,jD 29 .add 28 1,jM 5 29])))))) (rS [jI 6 0] (.seq (.block 2 (.loop (.block 3
 (rS [jM 39 4,jC 40 153 [.t 3,.t 39],jM 38 40,jE 41 0 38,jE 42 1 38,jM 7 41,jM 8 42] (rS [jM 43 7,jM 4 43] (.seq (rS [jM 44 8,jM 45 6,jB 46 .eql 44 45] (.cond (.t 46) (.exit 2) .skip)) (.region [jM 47 8,jM 6 47]))))))) (rS [jM 48 6,oP 49 (.mksl 2 8 [.int .i64 0] (.t 48) (.t 48)),jM 9
 49] (.seq (rS [jI 10 0] (.block 4 (.loop (.seq (rS [jM 50 10,jM 51 6,jB 52 .lss 50 51] (kE 52 4)) (.seq (.block 5 (.region [jM 55 9,jM 56 10,jX 57 1 55 56,oS (.store none 1 (.t 57) (cI (-1)))])) (.region [jM 53 10,jD 54 .add 53 1,jM 10 54])))))) (rS [jA 58 1 3,jL 59 58,oP 60 (.mk 2 1
 [.int .i64 0] [(0,1,.t 59)]),jM 11 60] (rS [jM 61 9,jM 62 4,jA 63 1 3,jL 64 63,jX 65 1 62 64,jL 66 65,jX 67 1 61 66,oS (.store none 1 (.t 67) (cI 0))] (rS [jM 68 0,jN 69 68,jA 70 0 69,jL 71 70,oP 72 (.build [.int .i64 0,.int .i64 0,.nils,.nils] [(0,1,.t 71)]),jZ 12 25,jW 4 12
 72] (.seq (rS [jI 13 0] (.block 6 (.loop (.seq (rS [jM 73 13,jM 74 11,jK 75 1 74,jB 76 .lss 73 75] (kE 76 6)) (.seq (.block 7 (rS [oP 79 (.mk 2 0 [] []),jM 14 79] (.seq (rS [jI 15 0] (.block 8 (.loop (.seq (rS [jM 80 15,jA 81 3 3,jL 82 81,jM 83 11,jM 84 13,jX 85 1 83 84,jL 86 85,jX 87 1
 82 86,jL 88 87,jK 89 1 88,jB 90 .lss 80 89] (kE 90 8)) (.seq (.block 9 (rS [jA 93 3 3,jL 94 93,jM 95 11,jM 96 13,jX 97 1 95 96,jL 98 97,jX 99 1 94 98,jL 100 99,jM 101 15,jX 102 1 100 101,jL 103 102,jM 16 103] (.seq (rS [jM 104 9,jM 105 4,jM 106 16,jX 107 1 105 106,jL 108 107,jX
 109 1 104 108,jL 110 109,jD 111 .lss 110 0] (.cond (.t 111) (rS [jM 112 9,jM 113 4,jM 114 16,jX 115 1 113 114,jL 116 115,jM 117 11,jK 118 1 117,jX 119 1 112 116,jW 1 119 118] (.region [jM 120 11,jM 121 16,oP 122 (.mk 2 1 [.int .i64 0] [(0,1,.t 121)]),oP 123 (.app 2 1 8 (.t 120) (.t
 122)),jM 11 123])) .skip)) (.region [jM 124 14,jM 125 9,jM 126 4,jM 127 16,jX 128 1 126 127,jL 129 128,jX 130 1 125 129,jL 131 130,oP 132 (.mk 2 1 [.int .i64 0] [(0,1,.t 131)]),oP 133 (.app 2 1 8 (.t 124) (.t 132)),jM 14 133])))) (.region [jM 91 15,jD 92 .add 91 1,jM 15 92]))))))
 (rS [jA 134 2 12,jL 135 134,jA 136 2 3,jL 137 136,jM 138 11,jM 139 13,jX 140 1 138 139,jL 141 140,jX 142 1 137 141,jL 143 142,oP 144 (.mk 4 1 [.bool false] [(0,1,.t 143)]),oP 145 (.app 4 1 1 (.t 135) (.t 144)),jA 146 2 12,jW 1 146 145] (.region [jA 147 3 12,jL 148 147,jM 149 14,
 oP 150 (.mk 36 1 [.nils] [(0,1,.t 149)]),oP 151 (.app 36 1 24 (.t 148) (.t 150)),jA 152 3 12,jW 1 152 151]))))) (.region [jM 77 13,jD 78 .add 77 1,jM 13 78])))))) (rS [jQ 153 12,jW 4 2 153] .ret))))))))))))⟩
def ir103:aM:=⟨[.cell 2 (some 4),.tmp 3],rS [jT 1 25 0,jZ 2 25,jI 3 0] (.seq (rS [jC 4 116 [.t 1],jJ 5 4] (.cond (.t 5) (rS [jY 6,jW 4 2 6,jI 3 1] .ret) .skip)) (rS [jC 7 102 [.t 1],jC 8 50 [.t 7],jE 9 0 8,jE 10 1 8,jW 4 2 9,jM 3 10] .ret))⟩
def ir104:aM:=⟨[.cell 4 (some 4),.tmp 5],rS [jT 2 25 0,jT 3 25 1,jZ 4 25,jI 5 0] (.seq (rS [jC 10 116 [.t 2],jJ 11 10,jM 12 11,oG 13 12 false (.call (.c (.fn 116 [])) [.t 3]),oG 14 12 false (.not (.t 13)),jP 15 12 14 true] (.cond (.t 15) (rS [jY 16,jW 4 4 16,jI 5 1] .ret) .skip))
 (.seq (rS [jA 17 0 2,jL 18 17,jA 19 0 3,jL 20 19,jB 21 .add 18 20,jD 22 .gtr 21 3] (.cond (.t 22) (rS [jY 23,jW 4 4 23,jI 5 2] .ret) .skip)) (rS [jC 24 102 [.t 2],jZ 6 25,jW 4 6 24] (.seq (rS [jI 7 0] (.block 0 (.loop (.seq (rS [jM 25 7,jA 26 0 3,jL 27 26,jB 28 .lss 25 27] (kE 28 0))
 (.seq (.block 1 (.region [jA 31 0 6,jL 32 31,jC 33 154 [.t 6,.t 32],jW 4 6 33])) (.region [jM 29 7,jD 30 .add 29 1,jM 7 30])))))) (rS [jC 34 102 [.t 3],jZ 8 25,jW 4 8 34] (.seq (rS [jI 9 0] (.block 2 (.loop (.seq (rS [jM 35 9,jA 36 0 2,jL 37 36,jB 38 .lss 35 37] (kE 38 2)) (.seq (.block
 3 (.region [jC 41 154 [.t 8,cI 0],jW 4 8 41])) (.region [jM 39 9,jD 40 .add 39 1,jM 9 40])))))) (rS [jC 42 155 [.t 6,.t 8,cI 1],jE 43 0 42,jE 44 1 42,jW 4 4 43,jM 5 44] .ret)))))))⟩
def ir105:aM:=⟨[.cell 6 (some 4),.tmp 7],rS [jZ 6 25,jI 7 0] (.seq (rS [jM 9 0,jM 10 1,jC 11 156 [.t 9,.t 10],jM 8 11] (rS [jM 12 8,jD 13 .neq 12 0] (.cond (.t 13) (rS [jY 14,jM 15 8,jW 4 6 14,jM 7 15] .ret) .skip))) (rS [jM 16 0,jM 17 1,jM 18 2,jC 19 155 [.t 16,.t 17,.t 18],
 jE 20 0 19,jE 21 1 19,jW 4 6 20,jM 7 21] .ret))⟩
def ir106:aM:=⟨[.tmp 2],rS [oP 2 (.mov (.c .nils))] (.seq (rS [jM 3 0,oP 4 (.isnil false (.t 3))] (.cond (.t 4) (rS [oP 2 (.mov (.c .nils))] .ret) .skip)) (rS [oP 5 (.mk 4 0 [] []),jM 6 0,oP 7 (.app 4 1 1 (.t 5) (.t 6)),jM 2 7] .ret))⟩
def ir107:aM:=⟨[.tmp 2],rS [jI 2 0] (rS [jI 3 0] (.seq (rS [jM 5 0,jK 6 1 5,jD 7 .sub 6 1,jM 4 7] (.block 0 (.loop (.seq (rS [jM 8 4,jD 9 .geq 8 0] (kE 9 0)) (.seq (.block 1 (.region [jM 12 3,oP 13 (.bin .mul (cI 3) (.t 12)),jM 14 0,jM 15 4,jX 16 1 14 15,jL 17 16,jB 18 .add 13 17,
 jM 3 18])) (.region [jM 10 4,jD 11 .sub 10 1,jM 4 11])))))) (rS [jM 19 3,jM 2 19] .ret)))⟩
def ir110:aM:=⟨[.cell 2 (some 4)],rS [jT 1 77 0,jZ 2 77] (rS [jA 9 0 1,jL 10 9,jC 11 94 [.t 10],oP 12 (.mksl 3 8 [.int .i64 0] (.t 11) (.t 11)),oP 3 (.new 80 [.nils]),jW 1 3 12] (.seq (rS [jL 13 3,jK 14 1 13,jI 15 0] (.block 0 (.loop (rS [jB 16 .lss 15 14] (.seq (kE 16 0) (.seq
 (.block 1 (rS [jM 17 15,jM 4 17] (rS [jA 18 0 1,jL 19 18,jM 20 4,jC 21 95 [.t 19,.t 20],jK 22 1 21,jI 23 0] (.block 2 (.loop (rS [jB 24 .lss 23 22] (.seq (kE 24 2) (.seq (.block 3 (rS [jM 25 23,jX 26 1 21 23,jL 27 26,jM 5 25,jM 6 27] (rS [jM 28 6,jD 29 .eql 28 2] (.cond (.t 29)
 (.region [jL 30 3,jM 31 4,jX 32 1 30 31,jL 33 32,jM 34 5,oP 35 (.bin .shl (cI 1) (.t 34)),jB 36 .or 33 35,jX 37 1 30 31,jW 1 37 36]) .skip)))) (.region [jD 38 .add 23 1,jM 23 38]))))))))) (.region [jD 39 .add 15 1,jM 15 39]))))))) (rS [jA 41 0 1,jL 42 41,jA 43 1 1,jL 44 43,oP 45
 (.build [.int .i64 0,.int .i64 0] [(0,1,.t 44)]),oP 46 (.mkfn 165 [.t 1]),oP 47 (.mkfn 166 [.t 3,.t 1]),jC 48 164 [.t 42,.t 45,cI 0,.t 46,.t 47],jM 40 48,jE 49 0 40,jE 50 1 40,jZ 7 77,jW 4 7 49,jM 8 50] (rS [jQ 51 7,jC 52 167 [.t 51],jW 4 2 52] .ret))))⟩
def ir111:aM:=⟨[.cell 2 (some 4),.tmp 3],rS [jT 1 77 0,jZ 2 25,jI 3 0] (.seq (rS [jA 7 2 1,jL 8 7,jK 9 1 8,jD 10 .gtr 9 150] (.cond (.t 10) (rS [jY 11,jW 4 2 11,jI 3 3] .ret) .skip)) (rS [jA 12 0 1,oP 13 (.load (some 77) none (.t 12)),jA 14 1 1,oP 15 (.load (some 77) none (.t
 14)),jA 16 2 1,jL 17 16,⟨some 18,.call (.c (.fn 106 [])) [.t 17],none,[77]⟩,oP 19 (.build [.int .i64 0,.int .i64 0,.nils,.nils] [(0,1,.t 13),(1,1,.t 15),(2,1,.t 18)]),jZ 4 25,jW 4 4 19] (.seq (rS [jA 20 3 1,jL 21 20,jK 22 1 21,jI 23 0] (.block 0 (.loop (rS [jB 24 .lss 23 22]
 (.seq (kE 24 0) (.seq (.block 1 (rS [jX 25 1 21 23,jL 26 25,jM 6 26] (.region [jA 27 3 4,oP 28 (.load (some 25) none (.t 27)),jM 29 6,⟨some 30,.call (.c (.fn 168 [])) [.t 29],none,[25]⟩,oP 31 (.mk 36 1 [.nils] [(0,1,.t 30)]),oP 32 (.app 36 1 24 (.t 28) (.t 31)),jA 33 3 4,jW 1 33
 32]))) (.region [jD 34 .add 23 1,jM 23 34]))))))) (rS [jQ 35 4,jW 4 2 35,jI 3 0] .ret))))⟩
def ir112:aM:=⟨[.tmp 4],rS [jT 2 25 0,jI 4 0] (.seq (.block 0 (rS [jQ 6 2,jC 7 58 [.t 6],jJ 8 7,jM 5 8] (.cond (.t 5) (rS [jI 4 1] .ret) (rS [jQ 10 2,jM 11 1,jC 12 169 [.t 10,.t 11],jJ 13 12,jM 14 13,oG 15 14 false (.lea 0 (.t 2)),oG 16 14 false (.load none none (.t 15)),oG 17 14
 false (.bin .eql (.t 16) (cI 1)),jP 18 14 17 true,jM 9 18] (.cond (.t 9) (rS [jI 4 2] .ret) .skip))))) (rS [jI 4 0] .ret))⟩
def ir113:aM:=⟨[.cell 2 (some 4)],rS [jT 1 25 0,jZ 2 77] (rS [jQ 3 1,jC 4 60 [.t 3],jC 5 110 [.t 4],jW 4 2 5] .ret)⟩
def ir114:aM:=⟨[.cell 4 (some 4),.tmp 5],rS [jT 2 77 0,jT 3 3 1,jZ 4 77,jF 5 false] (rS [jA 12 2 2,jL 13 12,jC 14 106 [.t 13],oP 6 (.new 22 [.nils]),jW 1 6 14] (rS [jA 15 0 2,jL 16 15,jD 17 .sub 16 1,oP 19 (.load (some 3) none (.t 3)),jA 21 0 2,oP 22 (.load (some 77) none (.t
 21)),jD 23 .sub 22 1,oP 25 (.load (some 3) none (.t 3)),⟨some 18,.call (.c (.fn 171 [])) [.t 17],none,[3,77]⟩,⟨some 20,.call (.c (.fn 170 [])) [.t 18,.t 19,cI 0],none,[77,3]⟩,⟨some 24,.call (.c (.fn 171 [])) [.t 23],none,[3]⟩,jC 26 170 [.t 24,.t 25,cI 1],oP 27 (.mk 3 2 [.int
 .i64 0,.int .i64 0] [(0,1,.t 20),(1,1,.t 26)]),jM 7 27] (.seq (rS [jF 8 true] (.block 0 (.loop (.seq (rS [jM 28 8] (kE 28 0)) (.block 1 (rS [jF 8 false] (rS [jA 29 3 2,jL 30 29,jK 31 1 30,jI 32 0] (.block 2 (.loop (rS [jB 33 .lss 32 31] (.seq (kE 33 2) (.seq (.block 3 (rS [jM 34 32,jX
 35 1 30 32,jL 36 35,jM 9 34,jM 10 36] (rS [jL 37 6,jM 38 9,jX 39 1 37 38,jL 40 39,jJ 41 40,jM 42 41,oG 43 42 true (.load none none (.t 6)),oG 44 42 true (.mov (.t 10)),oG 45 42 true (.mov (.t 7)),oG 46 42 true (.idx 1 (.t 45) (cI 0)),oG 47 42 true (.load none none (.t 46)),oG 48 42
 true (.idx 1 (.t 44) (.t 47)),oG 49 42 true (.load none none (.t 48)),oG 50 42 true (.idx 1 (.t 43) (.t 49)),oG 51 42 true (.load none none (.t 50)),oG 52 42 true (.mov (.t 51)),oG 53 52 false (.load none none (.t 6)),oG 54 52 false (.mov (.t 10)),oG 55 52 false (.mov (.t 7)),oG 56 52
 false (.idx 1 (.t 55) (cI 1)),oG 57 52 false (.load none none (.t 56)),oG 58 52 false (.idx 1 (.t 54) (.t 57)),oG 59 52 false (.load none none (.t 58)),oG 60 52 false (.idx 1 (.t 53) (.t 59)),oG 61 52 false (.load none none (.t 60)),oG 62 42 true (.pick (.t 52) (.c (.bool true)) (.t 61)),oP
 63 (.pick (.t 42) (.t 62) (.c (.bool false)))] (.cond (.t 63) (.region [jL 64 6,jM 65 9,jX 66 1 64 65,oS (.store none 1 (.t 66) (.c (.bool true))),jF 8 true]) .skip)))) (.region [jD 67 .add 32 1,jM 32 67]))))))))))))) (rS [jA 68 2 2,jL 69 68,jK 70 1 69,oP 71 (.mksl 4 1 [.bool false] (.t
 70) (.t 70)),jM 11 71] (rS [jM 72 11,jA 73 1 2,jL 74 73,jX 75 1 72 74,oS (.store none 1 (.t 75) (.c (.bool true)))] (rS [jA 76 0 2,oP 77 (.load (some 77) none (.t 76)),jD 78 .sub 77 1,jM 79 11,oP 81 (.mkfn 174 [.t 6]),oP 82 (.mkfn 175 [.t 2,.t 3]),⟨some 80,.call (.c (.fn 173 [])) [.t
 79],none,[77]⟩,jC 83 172 [.t 78,.t 80,cI 1000,.t 81,.t 82],jE 84 0 83,jE 85 1 83,jW 4 4 84,jM 5 85] .ret))))))⟩
def ir115:aM:=⟨[.tmp 4],rS [jI 4 0] (rS [jM 5 1,jM 6 0,jK 7 1 6,jB 8 .sub 5 7,jM 1 8] (.seq (rS [jM 9 1,jD 10 .lss 9 0] (.cond (.t 10) (rS [jI 4 (-1)] .ret) .skip)) (rS [jM 11 1,jM 4 11] .ret)))⟩
def ir116:aM:=⟨[.tmp 2],rS [jF 2 false] (rS [jM 3 0,jN 4 3,jA 5 2 4,jL 6 5,jK 7 1 6,jD 8 .leq 7 150,jM 9 8,oG 10 9 true (.mov (.t 0)),oG 11 9 true (.call (.c (.fn 176 [])) [.t 10]),oP 12 (.pick (.t 9) (.t 11) (.c (.bool false))),jM 2 12] .ret)⟩
def ir117:aM:=⟨[.tmp 2],rS [jF 2 false] (.seq (rS [jM 5 0,jN 6 5,jA 7 0 6,jL 8 7,jD 9 .neq 8 1] (.cond (.t 9) (rS [jF 2 false] .ret) .skip)) (rS [jM 11 0,jN 12 11,oP 13 (.load (some 25) (some 4) (.t 12)),⟨some 14,.call (.c (.fn 51 [])) [],none,[25]⟩,jC 15 177 [.t 13,.t 14],jM 10
 15,jE 16 0 10,jE 17 1 10,jM 3 16,jM 4 17] (rS [jM 18 3,jM 19 18,oG 20 19 true (.mov (.t 4)),oG 21 19 true (.bin .eql (.t 20) (cI 0)),oP 22 (.pick (.t 19) (.t 21) (.c (.bool false))),jM 2 22] .ret)))⟩
def ir118:aM:=⟨[.cell 4 (some 4),.tmp 5],rS [jT 2 25 0,jZ 4 25,jI 5 0] (.seq (rS [jC 6 116 [.t 2],jJ 7 6] (.cond (.t 7) (rS [jY 8,jW 4 4 8,jI 5 1] .ret) .skip)) (.seq (rS [jM 9 1,jA 10 0 2,jL 11 10,jC 12 48 [.t 9,cI 0,.t 11],jJ 13 12,jM 14 13,oG 15 14 false (.lea 0 (.t 2)),oG
 16 14 false (.load none none (.t 15)),oG 17 14 false (.bin .eql (.t 16) (cI 3)),jP 18 14 17 true] (.cond (.t 18) (rS [jY 19,jW 4 4 19,jI 5 2] .ret) .skip)) (rS [jM 20 1,jC 21 154 [.t 2,.t 20],jC 22 50 [.t 21],jE 23 0 22,jE 24 1 22,jW 4 4 23,jM 5 24] .ret)))⟩
def ir119:aM:=⟨[.cell 6 (some 4),.tmp 7],rS [jT 3 25 0,jZ 6 25,jI 7 0] (rS [jM 14 1,jC 15 178 [.t 3,.t 14],jM 8 15] (.seq (rS [jM 16 8,jD 17 .eql 16 0,jM 18 17,oG 19 18 true (.mov (.t 2)),oG 20 18 true (.lea 0 (.t 3)),oG 21 18 true (.load none none (.t 20)),oG 22 18 true (.bin
 .sub (.t 21) (cI 1)),oG 23 18 true (.call (.c (.fn 48 [])) [.t 19,cI 0,.t 22]),oG 24 18 true (.not (.t 23)),oG 25 18 true (.mov (.t 24)),oG 26 25 false (.mov (.t 1)),oG 27 25 false (.mov (.t 2)),oG 28 25 false (.bin .eql (.t 26) (.t 27)),oG 29 18 true (.pick (.t 25) (.c (.bool true)) (.t
 28)),oP 30 (.pick (.t 18) (.t 29) (.c (.bool false)))] (.cond (.t 30) (.region [jI 8 2]) .skip)) (.seq (rS [jM 31 8,jD 32 .neq 31 0] (.cond (.t 32) (rS [jY 33,jM 34 8,jW 4 6 33,jM 7 34] .ret) .skip)) (rS [jC 35 179 [.t 3],jZ 9 25,jW 4 9 35] (rS [jA 36 2 9,jL 37 36,jK 38 1 37,jM 10 38]
 (rS [oP 39 (.mk 2 0 [] []),jM 11 39] (.seq (rS [jI 12 0] (.block 0 (.loop (.seq (rS [jM 40 12,jA 41 0 3,jL 42 41,jC 43 100 [.t 42],jB 44 .lss 40 43] (kE 44 0)) (.seq (.block 1 (rS [jM 47 11,jM 48 10,oP 49 (.mk 2 1 [.int .i64 0] [(0,1,.t 48)]),oP 50 (.app 2 1 8 (.t 47) (.t 49)),jM 11 50]
 (rS [jI 13 0] (.block 2 (.loop (.seq (rS [jM 51 13,jA 52 2 3,jL 53 52,jK 54 1 53,jB 55 .lss 51 54] (kE 55 2)) (.seq (.block 3 (rS [jM 58 12,jM 59 1,jC 60 151 [.t 58,.t 59],jM 61 12,jM 62 2,jC 63 151 [.t 61,.t 62],jB 64 .neq 60 63] (.cond (.t 64) (.region [jA 65 3 9,jL 66 65,jM 67 13,
 jX 68 1 66 67,jL 69 68,jM 70 12,jM 71 10,jX 72 1 69 70,jW 1 72 71]) .skip))) (.region [jM 56 13,jD 57 .add 56 1,jM 13 57])))))))) (.region [jM 45 12,jD 46 .add 45 1,jM 12 46])))))) (rS [jA 73 2 9,jL 74 73,oP 75 (.mk 4 1 [.bool false] [(0,1,.c (.bool false))]),oP 76 (.app 4 1 1 (.t
 74) (.t 75)),jA 77 2 9,jW 1 77 76] (rS [jA 78 3 9,jL 79 78,jM 80 11,oP 81 (.mk 36 1 [.nils] [(0,1,.t 80)]),oP 82 (.app 36 1 24 (.t 79) (.t 81)),jA 83 3 9,jW 1 83 82] (rS [jC 84 102 [.t 9],jC 85 50 [.t 84],jE 86 0 85,jE 87 1 85,jW 4 6 86,jM 7 87] .ret))))))))))⟩
def ir120:aM:=⟨[.cell 4 (some 4),.tmp 5],rS [jT 2 25 0,jT 3 25 1,jZ 4 25,jI 5 0] (.seq (rS [jC 10 116 [.t 2],jJ 11 10,jM 12 11,oG 13 12 false (.call (.c (.fn 116 [])) [.t 3]),oG 14 12 false (.not (.t 13)),jP 15 12 14 true] (.cond (.t 15) (rS [jY 16,jW 4 4 16,jI 5 1] .ret) .skip))
 (.seq (rS [jA 17 0 2,jL 18 17,jD 19 .neq 18 2,jM 20 19,oG 21 20 false (.lea 0 (.t 3)),oG 22 20 false (.load none none (.t 21)),oG 23 20 false (.bin .neq (.t 22) (cI 2)),jP 24 20 23 true] (.cond (.t 24) (rS [jY 25,jW 4 4 25,jI 5 2] .ret) .skip)) (rS [jC 26 154 [.t 2,cI 2],jZ 6 25,jW 4 6
 26] (rS [jC 27 154 [.t 3,cI 0],jZ 7 25,jW 4 7 27] (rS [jC 29 155 [.t 6,.t 7,cI 1],jM 28 29,jE 30 0 28,jE 31 1 28,jZ 8 25,jW 4 8 30,jM 9 31] (.seq (rS [jM 32 9,jD 33 .neq 32 0] (.cond (.t 33) (rS [jY 34,jM 35 9,jW 4 4 34,jM 5 35] .ret) .skip)) (rS [jC 36 180 [.t 8,cI 1],jE 37 0 36,
 jE 38 1 36,jW 4 4 37,jM 5 38] .ret)))))))⟩
def ir121:aM:=⟨[.cell 4 (some 4),.tmp 5],rS [jT 2 25 0,jZ 4 25,jI 5 0] (.seq (rS [jM 7 1,jC 8 181 [.t 2,.t 7],jM 6 8] (rS [jM 9 6,jD 10 .neq 9 0] (.cond (.t 10) (rS [jY 11,jM 12 6,jW 4 4 11,jM 5 12] .ret) .skip))) (rS [jM 13 1,jC 14 180 [.t 2,.t 13],jE 15 0 14,jE 16 1 14,jW 4
 4 15,jM 5 16] .ret))⟩
def ir122:aM:=⟨[.tmp 2],rS [oP 2 (.mov (.c .nils))] (rS [jM 5 0,jK 6 1 5,oP 7 (.mksl 2 8 [.int .i64 0] (.t 6) (.t 6)),jM 3 7] (.seq (rS [jI 4 0] (.block 0 (.loop (.seq (rS [jM 8 4,jM 9 0,jK 10 1 9,jB 11 .lss 8 10] (kE 11 0)) (.seq (.block 1 (.region [jM 14 3,jM 15 4,jM 16 0,jM 17 4,
 jX 18 1 16 17,jL 19 18,jX 20 1 14 15,jW 1 20 19])) (.region [jM 12 4,jD 13 .add 12 1,jM 4 13])))))) (rS [jM 21 3,jM 2 21] .ret)))⟩
def ir123:aM:=⟨[.tmp 2],rS [jT 1 25 0,jF 2 false] (.seq (rS [jA 5 0 1,jL 6 5,jD 7 .neq 6 1] (.cond (.t 7) (rS [jF 2 false] .ret) .skip)) (rS [oP 9 (.load (some 25) (some 4) (.t 1)),⟨some 10,.call (.c (.fn 25 [])) [],none,[25]⟩,jC 11 182 [.t 9,.t 10],jM 8 11,jE 12 0 8,jE 13 1 8,
 jM 3 12,jM 4 13] (rS [jM 14 3,jM 2 14] .ret)))⟩
def ir124:aM:=⟨[.cell 4 (some 4),.tmp 5],rS [jT 2 25 0,jZ 4 25,jI 5 0] (.seq (rS [jM 10 1,jK 11 1 10,jI 12 0] (.block 0 (.loop (rS [jB 13 .lss 12 11] (.seq (kE 13 0) (.seq (.block 1 (rS [jX 14 1 10 12,jL 15 14,jM 7 15] (rS [jM 17 7,jQ 18 2,oP 19 (.call (.t 17) [.t 18]),jM 16 19,jE
 20 0 16,jE 21 1 16,jZ 8 25,jW 4 8 20,jM 9 21] (.seq (rS [jM 22 9,jD 23 .neq 22 0] (.cond (.t 23) (rS [jY 24,jM 25 9,jW 4 4 24,jM 5 25] .ret) .skip)) (.region [jQ 26 8,jW 4 2 26]))))) (.region [jD 27 .add 12 1,jM 12 27]))))))) (rS [jQ 28 2,jW 4 4 28,jI 5 0] .ret))⟩
def ir125:aM:=⟨[.cell 2 (some 4),.tmp 3],rS [jT 1 25 0,jZ 2 25,jI 3 0] (rS [jQ 4 1,jC 5 126 [.t 4,cI 1],jE 6 0 5,jE 7 1 5,jW 4 2 6,jM 3 7] .ret)⟩
def ir126:aM:=⟨[.cell 4 (some 4),.tmp 5],rS [jT 2 25 0,jT 3 2 1,jZ 4 25,jI 5 0] (.seq (.block 0 (rS [jQ 7 2,jC 8 58 [.t 7],jJ 9 8,jM 6 9] (.cond (.t 6) (rS [jY 10,jW 4 4 10,jI 5 1] .ret) (rS [jL 12 3,jA 13 0 2,jL 14 13,jC 15 45 [.t 12,cI 0,.t 14],jJ 16 15,jM 17 16,oG 18 17
 false (.lea 0 (.t 2)),oG 19 17 false (.load none none (.t 18)),oG 20 17 false (.bin .eql (.t 19) (cI 3)),jP 21 17 20 true,jM 11 21] (.cond (.t 11) (rS [jY 22,jW 4 4 22,jI 5 2] .ret) .skip))))) (rS [jQ 23 2,jA 25 0 2,oP 26 (.load (some 25) none (.t 25)),jD 27 .add 26 1,oP 28 (.mkfn 184
 [.t 3]),⟨some 24,.call (.c (.fn 113 [])) [.t 23],none,[25]⟩,jC 29 183 [.t 24,.t 27,.t 28],jC 30 69 [.t 29],jE 31 0 30,jE 32 1 30,jW 4 4 31,jM 5 32] .ret))⟩
def ir127:aM:=⟨[.cell 2 (some 4),.tmp 3],rS [jT 1 25 0,jZ 2 25,jI 3 0] (rS [jQ 4 1,jC 5 128 [.t 4,cI 0,cI 1],jE 6 0 5,jE 7 1 5,jW 4 2 6,jM 3 7] .ret)⟩
def ir128:aM:=⟨[.cell 6 (some 4),.tmp 7],rS [jT 3 25 0,jT 4 2 1,jT 5 2 2,jZ 6 25,jI 7 0] (.seq (.block 0 (rS [jQ 12 3,jC 13 58 [.t 12],jJ 14 13,jM 11 14] (.cond (.t 11) (rS [jY 15,jW 4 6 15,jI 7 1] .ret) (rS [jQ 17 3,jL 18 4,jC 19 169 [.t 17,.t 18],jJ 20 19,jM 21 20,oG 22 21
 false (.load none (some 4) (.t 3)),oG 23 21 false (.load none none (.t 5)),oG 24 21 false (.call (.c (.fn 169 [])) [.t 22,.t 23]),oG 25 21 false (.not (.t 24)),jP 26 21 25 true,jM 27 26,oG 28 27 false (.load none none (.t 4)),oG 29 27 false (.load none none (.t 5)),oG 30 27 false (.bin
 .eql (.t 28) (.t 29)),jP 31 27 30 true,jM 16 31] (.cond (.t 16) (rS [jY 32,jW 4 6 32,jI 7 2] .ret) .skip))))) (rS [jQ 33 3,jC 34 60 [.t 33],jZ 8 77,jW 4 8 34] (rS [jA 36 0 8,jL 37 36,jA 38 1 8,jL 39 38,oP 40 (.mkfn 186 [.t 8]),oP 41 (.mkfn 187 [.t 8,.t 4,.t 5]),jC 42 66 [.t 37,.t
 39,cI 0,.t 40,.t 41],jM 35 42,jE 43 0 35,jE 44 1 35,jZ 9 77,jW 4 9 43,jM 10 44] (rS [jQ 45 9,jC 46 69 [.t 45],jE 47 0 46,jE 48 1 46,jW 4 6 47,jM 7 48] .ret))))⟩
def ir129:aM:=⟨[.cell 4 (some 4),.tmp 5],rS [jT 2 25 0,jT 3 25 1,jZ 4 25,jI 5 0] (.seq (.block 0 (rS [jQ 12 2,jC 13 58 [.t 12],jJ 14 13,jM 15 14,oG 16 15 false (.load none (some 4) (.t 3)),oG 17 15 false (.call (.c (.fn 58 [])) [.t 16]),oG 18 15 false (.not (.t 17)),jP 19 15 18
 true,jM 11 19] (.cond (.t 11) (rS [jY 20,jW 4 4 20,jI 5 1] .ret) (rS [jA 22 0 2,jL 23 22,jD 24 .neq 23 2,jM 25 24,oG 26 25 false (.lea 0 (.t 3)),oG 27 25 false (.load none none (.t 26)),oG 28 25 false (.bin .neq (.t 27) (cI 2)),jP 29 25 28 true,jM 21 29] (.cond (.t 21) (rS [jY 30,jW 4
 4 30,jI 5 2] .ret) .skip))))) (rS [jQ 32 2,jC 33 126 [.t 32,cI 2],jM 31 33,jE 34 0 31,jE 35 1 31,jZ 6 25,jW 4 6 34,jM 7 35] (rS [jQ 37 3,jC 38 126 [.t 37,cI 0],jM 36 38,jE 39 0 36,jE 40 1 36,jZ 8 25,jW 4 8 39,jM 9 40] (rS [jQ 42 6,jM 43 7,jQ 44 8,jM 45 9,jC 46 88 [.t 42,.t
 43,.t 44,.t 45],jM 41 46,jE 47 0 41,jE 48 1 41,jZ 10 25,jW 4 10 47,jM 7 48] (.seq (rS [jM 49 7,jD 50 .neq 49 0] (.cond (.t 50) (rS [jY 51,jM 52 7,jW 4 4 51,jM 5 52] .ret) .skip)) (rS [jQ 53 10,jC 54 70 [.t 53,cI 1],jE 55 0 54,jE 56 1 54,jW 4 4 55,jM 5 56] .ret))))))⟩
def ir130:aM:=⟨[.tmp 4],rS [jF 4 false] (.seq (rS [jM 6 0,jK 7 1 6,jM 8 1,jK 9 1 8,jB 10 .neq 7 9] (.cond (.t 10) (rS [jF 4 false] .ret) .skip)) (.seq (rS [jI 5 0] (.block 0 (.loop (.seq (rS [jM 11 5,jM 12 0,jK 13 1 12,jB 14 .lss 11 13] (kE 14 0)) (.seq (.block 1 (rS [jM 17 0,jM 18
 5,jX 19 1 17 18,jL 20 19,jM 21 1,jM 22 5,jX 23 1 21 22,jL 24 23,jB 25 .neq 20 24] (.cond (.t 25) (rS [jF 4 false] .ret) .skip))) (.region [jM 15 5,jD 16 .add 15 1,jM 5 16])))))) (rS [jF 4 true] .ret)))⟩
def ir133:aM:=⟨[.cell 4 (some 4),.tmp 5],rS [jT 2 25 0,jT 3 25 1,jZ 4 25,jI 5 0] (rS [jC 6 105 [.t 2,.t 3,cI 2],jE 7 0 6,jE 8 1 6,jW 4 4 7,jM 5 8] .ret)⟩
def ir134:aM:=⟨[.cell 4 (some 4),.tmp 5],rS [jT 2 25 0,jT 3 25 1,jZ 4 25,jI 5 0] (rS [jC 6 105 [.t 2,.t 3,cI 3],jE 7 0 6,jE 8 1 6,jW 4 4 7,jM 5 8] .ret)⟩
def ir135:aM:=⟨[.tmp 2,.tmp 3],rS [oP 2 (.mov (.c .nils)),jF 3 false] (rS [jM 15 0,jN 16 15,jA 17 2 16,jL 18 17,jK 19 1 18,oP 20 (.mksl 4 1 [.bool false] (.t 19) (.t 19)),jM 4 20] (rS [jM 21 4,jM 22 0,jN 23 22,jA 24 1 23,jL 25 24,jX 26 1 21 25,oS (.store none 1 (.t 26) (.c
 (.bool true)))] (rS [jM 27 0,jN 28 27,jA 29 1 28,jL 30 29,oP 31 (.mk 2 1 [.int .i64 0] [(0,1,.t 30)]),jM 5 31] (rS [oP 32 (.mk 3 1 [.int .i64 0] [(0,1,cI (-1))]),jM 6 32] (rS [oP 33 (.mk 2 1 [.int .i64 0] [(0,1,cI 0)]),jM 7 33] (.seq (rS [jI 8 0] (.block 0 (.loop (.seq (rS [jM 34 8,
 jM 35 5,jK 36 1 35,jB 37 .lss 34 36] (kE 37 0)) (.seq (.block 1 (.seq (rS [jM 40 0,jN 41 40,jA 42 2 41,jL 43 42,jM 44 5,jM 45 8,jX 46 1 44 45,jL 47 46,jX 48 1 43 47,jL 49 48] (.cond (.t 49) (rS [oP 50 (.mk 2 0 [] []),jM 9 50] (.seq (rS [jM 51 8,jM 10 51] (.block 2 (.loop (.seq (rS [jM
 52 6,jM 53 10,jX 54 1 52 53,jL 55 54,jD 56 .geq 55 0] (kE 56 2)) (.seq (.block 3 (.region [jM 61 9,jM 62 7,jM 63 10,jX 64 1 62 63,jL 65 64,oP 66 (.mk 2 1 [.int .i64 0] [(0,1,.t 65)]),oP 67 (.app 2 1 8 (.t 61) (.t 66)),jM 9 67])) (.region [jM 57 6,jM 58 10,jX 59 1 57 58,jL 60 59,jM
 10 60])))))) (rS [oP 68 (.mk 2 0 [] []),jM 11 68] (.seq (rS [jM 69 9,jK 70 1 69,jD 71 .sub 70 1,jM 12 71] (.block 4 (.loop (.seq (rS [jM 72 12,jD 73 .geq 72 0] (kE 73 4)) (.seq (.block 5 (.region [jM 76 11,jM 77 9,jM 78 12,jX 79 1 77 78,jL 80 79,oP 81 (.mk 2 1 [.int .i64 0] [(0,1,.t
 80)]),oP 82 (.app 2 1 8 (.t 76) (.t 81)),jM 11 82])) (.region [jM 74 12,jD 75 .sub 74 1,jM 12 75])))))) (rS [jM 83 11,jM 2 83,jF 3 true] .ret))))) .skip)) (rS [jI 13 0] (.block 6 (.loop (.seq (rS [jM 84 13,jM 85 0,jN 86 85,jA 87 3 86,jL 88 87,jM 89 5,jM 90 8,jX 91 1 89 90,jL 92 91,
 jX 93 1 88 92,jL 94 93,jK 95 1 94,jB 96 .lss 84 95] (kE 96 6)) (.seq (.block 7 (rS [jM 99 0,jN 100 99,jA 101 3 100,jL 102 101,jM 103 5,jM 104 8,jX 105 1 103 104,jL 106 105,jX 107 1 102 106,jL 108 107,jM 109 13,jX 110 1 108 109,jL 111 110,jM 14 111] (rS [jM 112 4,jM 113 14,jX 114
 1 112 113,jL 115 114,jJ 116 115] (.cond (.t 116) (rS [jM 117 4,jM 118 14,jX 119 1 117 118,oS (.store none 1 (.t 119) (.c (.bool true)))] (rS [jM 120 5,jM 121 14,oP 122 (.mk 2 1 [.int .i64 0] [(0,1,.t 121)]),oP 123 (.app 2 1 8 (.t 120) (.t 122)),jM 5 123] (rS [jM 124 6,jM 125 8,oP 126
 (.mk 3 1 [.int .i64 0] [(0,1,.t 125)]),oP 127 (.app 3 1 8 (.t 124) (.t 126)),jM 6 127] (.region [jM 128 7,jM 129 13,oP 130 (.mk 2 1 [.int .i64 0] [(0,1,.t 129)]),oP 131 (.app 2 1 8 (.t 128) (.t 130)),jM 7 131])))) .skip)))) (.region [jM 97 13,jD 98 .add 97 1,jM 13 98])))))))) (.region
 [jM 38 8,jD 39 .add 38 1,jM 8 39])))))) (rS [oP 132 (.mk 2 0 [] []),jM 2 132,jF 3 false] .ret)))))))⟩
def ir136:aM:=⟨[.cell 4 (some 4),.tmp 5],rS [jT 2 25 0,jT 3 25 1,jZ 4 25,jI 5 0] (rS [jQ 6 2,jQ 7 3,oP 8 (.call (.c (.fn 188 [])) [.t 6,.t 7,.c (.fn 189 [])]),jE 9 0 8,jE 10 1 8,jW 4 4 9,jM 5 10] .ret)⟩
def ir137:aM:=⟨[.cell 4 (some 4),.tmp 5],rS [jT 2 25 0,jT 3 25 1,jZ 4 25,jI 5 0] (rS [jQ 6 2,jQ 7 3,oP 8 (.call (.c (.fn 188 [])) [.t 6,.t 7,.c (.fn 190 [])]),jE 9 0 8,jE 10 1 8,jW 4 4 9,jM 5 10] .ret)⟩
def ir138:aM:=⟨[.cell 4 (some 4),.tmp 5],rS [jT 2 25 0,jT 3 25 1,jZ 4 25,jI 5 0] (rS [jQ 6 2,jQ 7 3,oP 8 (.call (.c (.fn 188 [])) [.t 6,.t 7,.c (.fn 191 [])]),jE 9 0 8,jE 10 1 8,jW 4 4 9,jM 5 10] .ret)⟩
def ir139:aM:=⟨[.tmp 2],rS [jT 1 77 0,jF 2 false] (rS [jA 3 2 1,jL 4 3,jC 5 192 [.t 4,.c (.bool true)],jJ 6 5,jM 2 6] .ret)⟩
def ir140:aM:=⟨[.tmp 2],rS [jF 2 false] (rS [jM 6 0,jN 7 6,jA 8 2 7,jL 9 8,jK 10 1 9,jM 3 10] (rS [jM 11 0,jM 12 3,oP 13 (.bin .mul (cI 2) (.t 12)),jC 14 193 [.t 11,.t 13,cI 2],jM 4 14] (.seq (rS [jM 15 3,jM 5 15] (.block 0 (.loop (.seq (rS [jM 16 5,jM 17 3,oP 18 (.bin .mul (cI
 2) (.t 17)),jB 19 .leq 16 18] (kE 19 0)) (.seq (.block 1 (rS [jM 22 4,jM 23 5,jX 24 1 22 23,jL 25 24,jM 26 0,jN 27 26,jA 28 1 27,jL 29 28,jX 30 1 25 29,jL 31 30,jD 32 .gtr 31 0] (.cond (.t 32) (rS [jF 2 false] .ret) .skip))) (.region [jM 20 5,jD 21 .add 20 1,jM 5 21])))))) (rS [jF 2
 true] .ret))))⟩
def ir141:aM:=⟨[.tmp 4,.tmp 5],rS [oP 4 (.mov (.c (.str ⟨#[]⟩))),jI 5 0] (rS [jI 6 0] (.seq (rS [jM 15 1] (.cond (.t 15) (rS [jM 16 0,jN 17 16,jA 18 2 17,jL 19 18,jK 20 1 19,jM 6 20] (.block 0 (.loop (.seq (rS [jM 21 0,jM 22 6,jC 23 194 [.t 21,.t 22],jD 24 .eql 23 0] (kE 24 0))
 (.seq (.block 1 (rS [jM 27 6,jD 28 .eql 27 0] (.cond (.t 28) (.exit 0) .skip))) (.region [jM 25 6,jD 26 .sub 25 1,jM 6 26])))))) (.block 2 (.loop (.seq (rS [jM 29 0,jM 30 6,jC 31 194 [.t 29,.t 30],jD 32 .eql 31 0] (kE 32 2)) (.block 3 (.region [jM 33 6,jD 34 .add 33 1,jM 6 34])))))))
 (.seq (rS [jM 35 6,jD 36 .gtr 35 40] (.cond (.t 36) (rS [oP 4 (.mov (.c (.str ⟨#[]⟩))),jI 5 3] .ret) .skip)) (rS [jM 37 0,jM 38 6,jC 39 195 [.t 37,.t 38],jM 7 39] (rS [jM 40 6,oP 41 (.mksl 5 1 [.int .u8 0] (.t 40) (.t 40)),jM 8 41] (rS [oP 42 (.mk 4 0 [] []),jM 9 42] (.seq (rS [jI 10 0]
 (.block 4 (.loop (.seq (rS [jM 43 10,jM 44 0,jN 45 44,jA 46 2 45,jL 47 46,jK 48 1 47,jB 49 .lss 43 48] (kE 49 4)) (.seq (.block 5 (.region [jM 52 9,jM 53 0,jN 54 53,jA 55 2 54,jL 56 55,jM 57 10,jX 58 1 56 57,jL 59 58,jM 60 59,oG 61 60 true (.mov (.t 7)),oG 62 60 true (.mov (.t 6)),
 oG 63 60 true (.idx 1 (.t 61) (.t 62)),oG 64 60 true (.load none none (.t 63)),oG 65 60 true (.mov (.t 10)),oG 66 60 true (.idx 1 (.t 64) (.t 65)),oG 67 60 true (.load none none (.t 66)),oP 68 (.pick (.t 60) (.t 67) (.c (.bool false))),oP 69 (.mk 4 1 [.bool false] [(0,1,.t 68)]),oP 70
 (.app 4 1 1 (.t 52) (.t 69)),jM 9 70])) (.region [jM 50 10,jD 51 .add 50 1,jM 10 51])))))) (.seq (rS [jM 71 6,jD 72 .sub 71 1,jM 11 72] (.block 6 (.loop (.seq (rS [jM 73 11,jD 74 .geq 73 0] (kE 74 6)) (.seq (.block 7 (rS [jI 12 0] (.seq (rS [jM 77 1] (.cond (.t 77) (.region [jI 12 1])
 .skip)) (rS [jM 78 12,jM 13 78] (rS [jM 79 0,jM 80 7,jM 81 11,jX 82 1 80 81,jL 83 82,jM 84 9,jM 85 13,jC 86 196 [.t 79,.t 83,.t 84,.t 85],jM 14 86] (.seq (rS [jM 87 14,jC 88 197 [.t 87],jJ 89 88] (.cond (.t 89) (rS [jM 90 12,oP 91 (.bin .sub (cI 1) (.t 90)),jM 13 91] (.region [jM
 92 0,jM 93 7,jM 94 11,jX 95 1 93 94,jL 96 95,jM 97 9,jM 98 13,jC 99 196 [.t 92,.t 96,.t 97,.t 98],jM 14 99])) .skip)) (rS [jM 100 8,jM 101 11,jM 102 13,oP 103 (.bin .add (cI 97) (.t 102)),oP 104 (.conv .u8 (.t 103)),jX 105 1 100 101,jW 1 105 104] (.region [jM 106 14,jM 9
 106])))))))) (.region [jM 75 11,jD 76 .sub 75 1,jM 11 76])))))) (rS [jM 107 8,oP 108 (.b2s 5 (.t 107)),jM 4 108,jI 5 0] .ret)))))))))⟩
def ir142:aM:=⟨[.tmp 2],rS [jI 2 0] (rS [jI 3 0] (.seq (rS [jM 5 0,jK 6 0 5,jD 7 .sub 6 1,jM 4 7] (.block 0 (.loop (.seq (rS [jM 8 4,jD 9 .geq 8 0] (kE 9 0)) (.seq (.block 1 (.region [jM 12 3,oP 13 (.bin .mul (cI 2) (.t 12)),jM 14 0,jM 15 4,oP 16 (.idxs (.t 14) (.t 15)),oP 17 (.bin
 .sub (.t 16) (.c (.int .u8 97))),oP 18 (.conv .i64 (.t 17)),jB 19 .add 13 18,jM 3 19])) (.region [jM 10 4,jD 11 .sub 10 1,jM 4 11])))))) (rS [jM 20 3,jM 2 20] .ret)))⟩
def ir146:aM:=⟨[.tmp 2,.tmp 3],rS [jI 2 0,jI 3 0] (.seq (rS [jM 4 0,jK 5 0 4,jD 6 .gtr 5 40] (.cond (.t 6) (rS [jI 2 0,jI 3 3] .ret) .skip)) (.seq (rS [jM 7 0,jC 8 65 [.t 7],jC 9 56 [.t 8],jJ 10 9] (.cond (.t 10) (rS [jI 2 0,jI 3 2] .ret) .skip)) (rS [jM 11 0,jC 12 65 [.t 11],jM 2
 12,jI 3 0] .ret)))⟩
def ir147:aM:=⟨[.tmp 6],rS [jT 3 77 0,oP 6 (.mov (.c (.str ⟨#[]⟩)))] (rS [jA 23 2 3,jL 24 23,jK 25 1 24,oP 26 (.mksl 4 1 [.bool false] (.t 25) (.t 25)),jM 7 26] (rS [jM 27 7,jA 28 1 3,jL 29 28,jX 30 1 27 29,oS (.store none 1 (.t 30) (.c (.bool true)))] (rS [jM 31 7,oP 32 (.mk 22 1
 [.nils] [(0,1,.t 31)]),jM 8 32] (.seq (rS [jI 9 0] (.block 0 (.loop (.seq (rS [jM 33 9,jM 34 1,jB 35 .lss 33 34] (kE 35 0)) (.seq (.block 1 (rS [jM 38 7,jK 39 1 38,oP 40 (.mksl 4 1 [.bool false] (.t 39) (.t 39)),jM 10 40] (.seq (rS [jM 41 8,jM 42 9,jX 43 1 41 42,jL 44 43,jK 45 1 44,jI
 46 0] (.block 2 (.loop (rS [jB 47 .lss 46 45] (.seq (kE 47 2) (.seq (.block 3 (rS [jM 48 46,jX 49 1 44 46,jL 50 49,jM 11 48,jM 12 50] (rS [jM 51 12] (.cond (.t 51) (.region [jM 52 10,jA 53 3 3,jL 54 53,jM 55 11,jX 56 1 54 55,jL 57 56,oP 58 (.idx 1 (.t 57) (cI 0)),jL 59 58,jM 60 10,jA
 61 3 3,jL 62 61,jM 63 11,jX 64 1 62 63,jL 65 64,oP 66 (.idx 1 (.t 65) (cI 1)),jL 67 66,jX 68 1 52 59,oS (.store none 1 (.t 68) (.c (.bool true))),jX 69 1 60 67,oS (.store none 1 (.t 69) (.c (.bool true)))]) .skip)))) (.region [jD 70 .add 46 1,jM 46 70]))))))) (.region [jM 71 8,jM 72
 10,oP 73 (.mk 22 1 [.nils] [(0,1,.t 72)]),oP 74 (.app 22 1 24 (.t 71) (.t 73)),jM 8 74])))) (.region [jM 36 9,jD 37 .add 36 1,jM 9 37])))))) (rS [jA 75 2 3,jL 76 75,jC 77 106 [.t 76],jM 13 77] (rS [oP 78 (.mk 3 2 [.int .i64 0,.int .i64 0] [(0,1,cI 0),(1,1,cI 1)]),jM 14 78] (.seq
 (rS [jM 79 2] (.cond (.t 79) (.region [oP 80 (.mk 3 2 [.int .i64 0,.int .i64 0] [(0,1,cI 1),(1,1,cI 0)]),jM 14 80]) .skip)) (rS [oP 15 (.mov (.c (.str ⟨#[]⟩)))] (.seq (rS [jM 81 1,jM 16 81] (.block 4 (.loop (.seq (rS [jM 82 16,jD 83 .gtr 82 0] (kE 83 4)) (.seq (.block 5 (rS [jM 86 14,jK
 87 1 86,jI 88 0] (.block 6 (.loop (rS [jB 89 .lss 88 87] (.seq (kE 89 6) (.seq (.block 7 (rS [jX 90 1 86 88,jL 91 90,jM 18 91] (rS [jM 92 13,jK 93 1 92,oP 94 (.mksl 4 1 [.bool false] (.t 93) (.t 93)),jM 19 94] (rS [jF 20 false] (.seq (rS [jM 95 8,jM 96 16,jD 97 .sub 96 1,jX 98 1 95 97,jL
 99 98,jK 100 1 99,jI 101 0] (.block 8 (.loop (rS [jB 102 .lss 101 100] (.seq (kE 102 8) (.seq (.block 9 (rS [jM 103 101,jX 104 1 99 101,jL 105 104,jM 21 103,jM 22 105] (rS [jM 106 22,jM 107 106,oG 108 107 true (.mov (.t 13)),oG 109 107 true (.lea 3 (.t 3)),oG 110 107 true (.load none
 none (.t 109)),oG 111 107 true (.mov (.t 21)),oG 112 107 true (.idx 1 (.t 110) (.t 111)),oG 113 107 true (.load none none (.t 112)),oG 114 107 true (.mov (.t 18)),oG 115 107 true (.idx 1 (.t 113) (.t 114)),oG 116 107 true (.load none none (.t 115)),oG 117 107 true (.idx 1 (.t 108) (.t
 116)),oG 118 107 true (.load none none (.t 117)),oP 119 (.pick (.t 107) (.t 118) (.c (.bool false)))] (.cond (.t 119) (.region [jM 120 19,jM 121 21,jX 122 1 120 121,oS (.store none 1 (.t 122) (.c (.bool true))),jF 20 true]) .skip)))) (.region [jD 123 .add 101 1,jM 101 123]))))))) (rS [jM
 124 20] (.cond (.t 124) (rS [jM 125 19,jM 13 125] (rS [jM 126 18,jM 127 18,jD 128 .add 127 1,oP 129 (.sslice (.c (.str ⟨#[97,98]⟩)) (some (.t 126)) (some (.t 128))),jM 130 15,jB 131 .add 129 130,jM 15 131] (.exit 6))) .skip))))))) (.region [jD 132 .add 88 1,jM 88 132])))))))) (.region [jM
 84 16,jD 85 .sub 84 1,jM 16 85])))))) (rS [jM 133 15,jM 6 133] .ret))))))))))⟩
def ir148:aM:=⟨[.tmp 2],rS [jI 2 0] (rS [jI 3 1] (.seq (.block 0 (.loop (.seq (rS [jM 4 0,jD 5 .gtr 4 0] (kE 5 0)) (.seq (.block 1 (.region [jM 8 3,jD 9 .mul 8 3,jM 3 9])) (.region [jM 6 0,jD 7 .sub 6 1,jM 0 7]))))) (rS [jM 10 3,jM 2 10] .ret)))⟩
def ir149:aM:=⟨[.cell 4 (some 4),.tmp 5],rS [jT 2 134 0,jZ 4 25,jI 5 0] (rS [jA 11 0 2,jA 12 0 11,jQ 13 12,jZ 6 25,jW 4 6 13] (rS [jQ 14 6,jZ 7 25,jW 4 7 14] (.seq (rS [jI 8 1] (.block 0 (.loop (.seq (rS [jM 15 8,jM 16 1,jK 17 0 16,jB 18 .lss 15 17] (kE 18 0)) (.seq (.block 1 (rS
 [jQ 22 6,jQ 23 7,jC 24 201 [.t 22,.t 23],jM 21 24,jE 25 0 21,jE 26 1 21,jZ 9 25,jW 4 9 25,jM 10 26] (.seq (rS [jM 27 10,jD 28 .neq 27 0] (.cond (.t 28) (rS [jY 29,jM 30 10,jW 4 4 29,jM 5 30] .ret) .skip)) (.region [jQ 31 9,jW 4 7 31])))) (.region [jM 19 8,jD 20 .add 19 1,jM 8
 20])))))) (rS [jQ 32 7,jW 4 4 32,jI 5 0] .ret))))⟩
def ir150:aM:=⟨[.tmp 2],rS [jI 2 0] (rS [jI 3 1] (.seq (.block 0 (.loop (.seq (rS [jM 4 0,jD 5 .gtr 4 0] (kE 5 0)) (.seq (.block 1 (.region [jM 8 3,oP 9 (.bin .mul (cI 3) (.t 8)),jM 3 9])) (.region [jM 6 0,jD 7 .sub 6 1,jM 0 7]))))) (rS [jM 10 3,jM 2 10] .ret)))⟩
def ir151:aM:=⟨[.tmp 4],rS [jI 4 0] (rS [jM 5 0,jM 6 1,jC 7 150 [.t 6],jB 8 .quo 5 7,jD 9 .rem 8 3,jM 4 9] .ret)⟩
def ir152:aM:=⟨[.cell 2 (some 4)],rS [jZ 2 25] (rS [jM 20 0,jN 21 20,jA 22 2 21,jL 23 22,jK 24 1 23,jM 3 24] (rS [jM 25 0,jN 26 25,jA 27 0 26,jL 28 27,oP 29 (.conv .u64 (.t 28)),oP 30 (.bin .shl (cI 1) (.t 29)),jM 4 30] (rS [jM 31 3,jM 32 4,jB 33 .mul 31 32,oP 34 (.mksl 2 8
 [.int .i64 0] (.t 33) (.t 33)),jM 5 34] (.seq (rS [jI 6 0] (.block 0 (.loop (.seq (rS [jM 35 6,jM 36 5,jK 37 1 36,jB 38 .lss 35 37] (kE 38 0)) (.seq (.block 1 (.region [jM 41 5,jM 42 6,jX 43 1 41 42,oS (.store none 1 (.t 43) (cI (-1)))])) (.region [jM 39 6,jD 40 .add 39 1,jM 6 40]))))))
 (rS [jM 44 0,jN 45 44,jA 46 1 45,jL 47 46,jM 48 4,jB 49 .mul 47 48,oP 50 (.mk 2 1 [.int .i64 0] [(0,1,.t 49)]),jM 7 50] (rS [jM 51 5,jM 52 0,jN 53 52,jA 54 1 53,jL 55 54,jM 56 4,jB 57 .mul 55 56,jX 58 1 51 57,oS (.store none 1 (.t 58) (cI 0))] (rS [jM 59 0,jN 60 59,jA 61 0 60,
 jL 62 61,oP 63 (.build [.int .i64 0,.int .i64 0,.nils,.nils] [(0,1,.t 62)]),jZ 8 25,jW 4 8 63] (.seq (rS [jI 9 0] (.block 2 (.loop (.seq (rS [jM 64 9,jM 65 7,jK 66 1 65,jB 67 .lss 64 66] (kE 67 2)) (.seq (.block 3 (rS [jM 70 7,jM 71 9,jX 72 1 70 71,jL 73 72,jM 74 4,jB 75 .quo 73
 74,jM 10 75] (rS [oP 76 (.mk 2 0 [] []),jM 11 76] (.seq (rS [jI 12 0] (.block 4 (.loop (.seq (rS [jM 77 12,jM 78 0,jN 79 78,jA 80 0 79,jL 81 80,jC 82 100 [.t 81],jB 83 .lss 77 82] (kE 83 4)) (.seq (.block 5 (rS [jM 86 0,jN 87 86,jA 88 0 87,jL 89 88,jM 90 7,jM 91 9,jX 92 1 90 91,jL
 93 92,jM 94 4,jB 95 .rem 93 94,jM 96 12,jC 97 202 [.t 89,.t 95,.t 96],jM 13 97] (.seq (rS [jM 98 13,jD 99 .lss 98 0] (.cond (.t 99) (rS [jM 100 11,oP 101 (.mk 2 1 [.int .i64 0] [(0,1,cI (-1))]),oP 102 (.app 2 1 8 (.t 100) (.t 101)),jM 11 102] (.exit 5)) .skip)) (rS [jM 103 0,jN 104
 103,jA 105 3 104,jL 106 105,jM 107 10,jX 108 1 106 107,jL 109 108,jM 110 12,jX 111 1 109 110,jL 112 111,jM 113 4,jB 114 .mul 112 113,jM 115 13,jB 116 .add 114 115,jM 14 116] (.seq (rS [jM 117 5,jM 118 14,jX 119 1 117 118,jL 120 119,jD 121 .lss 120 0] (.cond (.t 121) (rS [jM 122 5,
 jM 123 14,jM 124 7,jK 125 1 124,jX 126 1 122 123,jW 1 126 125] (.region [jM 127 7,jM 128 14,oP 129 (.mk 2 1 [.int .i64 0] [(0,1,.t 128)]),oP 130 (.app 2 1 8 (.t 127) (.t 129)),jM 7 130])) .skip)) (.region [jM 131 11,jM 132 5,jM 133 14,jX 134 1 132 133,jL 135 134,oP 136 (.mk 2 1
 [.int .i64 0] [(0,1,.t 135)]),oP 137 (.app 2 1 8 (.t 131) (.t 136)),jM 11 137])))))) (.region [jM 84 12,jD 85 .add 84 1,jM 12 85])))))) (rS [jA 138 2 8,jL 139 138,jM 140 0,jN 141 140,jA 142 2 141,jL 143 142,jM 144 10,jX 145 1 143 144,jL 146 145,oP 147 (.mk 4 1 [.bool false] [(0,1,
 .t 146)]),oP 148 (.app 4 1 1 (.t 139) (.t 147)),jA 149 2 8,jW 1 149 148] (.region [jA 150 3 8,jL 151 150,jM 152 11,oP 153 (.mk 36 1 [.nils] [(0,1,.t 152)]),oP 154 (.app 36 1 24 (.t 151) (.t 153)),jA 155 3 8,jW 1 155 154])))))) (.region [jM 68 9,jD 69 .add 68 1,jM 9 69])))))) (rS [jM
 156 7,jK 157 1 156,jM 15 157] (.seq (rS [jI 16 0] (.block 6 (.loop (.seq (rS [jM 158 16,jA 159 3 8,jL 160 159,jK 161 1 160,jB 162 .lss 158 161] (kE 162 6)) (.seq (.block 7 (rS [jI 17 0] (.block 8 (.loop (.seq (rS [jM 165 17,jA 166 3 8,jL 167 166,jM 168 16,jX 169 1 167 168,jL 170 169,jK
 171 1 170,jB 172 .lss 165 171] (kE 172 8)) (.seq (.block 9 (rS [jA 175 3 8,jL 176 175,jM 177 16,jX 178 1 176 177,jL 179 178,jM 180 17,jX 181 1 179 180,jL 182 181,jD 183 .lss 182 0] (.cond (.t 183) (.region [jA 184 3 8,jL 185 184,jM 186 16,jX 187 1 185 186,jL 188 187,jM 189 17,jM 190
 15,jX 191 1 188 189,jW 1 191 190]) .skip))) (.region [jM 173 17,jD 174 .add 173 1,jM 17 174]))))))) (.region [jM 163 16,jD 164 .add 163 1,jM 16 164])))))) (rS [oP 192 (.mk 2 0 [] []),jM 18 192] (.seq (rS [jI 19 0] (.block 10 (.loop (.seq (rS [jM 193 19,jM 194 0,jN 195 194,jA 196 0 195,
 jL 197 196,jC 198 100 [.t 197],jB 199 .lss 193 198] (kE 199 10)) (.seq (.block 11 (.region [jM 202 18,jM 203 15,oP 204 (.mk 2 1 [.int .i64 0] [(0,1,.t 203)]),oP 205 (.app 2 1 8 (.t 202) (.t 204)),jM 18 205])) (.region [jM 200 19,jD 201 .add 200 1,jM 19 201])))))) (rS [jA 206 2 8,jL 207
 206,oP 208 (.mk 4 1 [.bool false] [(0,1,.c (.bool false))]),oP 209 (.app 4 1 1 (.t 207) (.t 208)),jA 210 2 8,jW 1 210 209] (rS [jA 211 3 8,jL 212 211,jM 213 18,oP 214 (.mk 36 1 [.nils] [(0,1,.t 213)]),oP 215 (.app 36 1 24 (.t 212) (.t 214)),jA 216 3 8,jW 1 216 215] (rS [jQ 217 8,jW
 4 2 217] .ret)))))))))))))))⟩
def ir153:aM:=⟨[.tmp 4,.tmp 5],rS [oP 4 (.mov (.c .nils)),jI 5 0] (rS [jM 11 1,jK 12 1 11,jM 6 12] (rS [jM 13 6,oP 14 (.mksl 2 8 [.int .i64 0] (.t 13) (.t 13)),jM 7 14] (rS [oP 15 (.mk 2 0 [] []),jM 8 15] (.seq (rS [jI 9 0] (.block 0 (.loop (.seq (rS [jM 16 9,jM 17 6,jB 18 .lss 16
 17] (kE 18 0)) (.seq (.block 1 (rS [jM 21 7,jM 22 9,jX 23 1 21 22,oS (.store none 1 (.t 23) (cI (-1)))] (.seq (rS [jI 10 0] (.block 2 (.loop (.seq (rS [jM 24 10,jM 25 8,jK 26 1 25,jB 27 .lss 24 26,jM 28 27,oG 29 28 true (.mov (.t 7)),oG 30 28 true (.mov (.t 9)),oG 31 28 true (.idx 1 (.t
 29) (.t 30)),oG 32 28 true (.load none none (.t 31)),oG 33 28 true (.bin .lss (.t 32) (cI 0)),oP 34 (.pick (.t 28) (.t 33) (.c (.bool false)))] (kE 34 2)) (.seq (.block 3 (rS [jM 37 1,jM 38 8,jM 39 10,jX 40 1 38 39,jL 41 40,jX 42 1 37 41,jL 43 42,jM 44 1,jM 45 9,jX 46 1 44 45,jL 47
 46,jB 48 .eql 43 47,jM 49 48,oG 50 49 true (.mov (.t 0)),oG 51 49 true (.mov (.t 1)),oG 52 49 true (.mov (.t 8)),oG 53 49 true (.mov (.t 10)),oG 54 49 true (.idx 1 (.t 52) (.t 53)),oG 55 49 true (.load none none (.t 54)),oG 56 49 true (.mov (.t 9)),oG 57 49 true (.call (.c (.fn 203 []))
 [.t 50,.t 51,.t 55,.t 56]),oP 58 (.pick (.t 49) (.t 57) (.c (.bool false)))] (.cond (.t 58) (.region [jM 59 7,jM 60 9,jM 61 10,jX 62 1 59 60,jW 1 62 61]) .skip))) (.region [jM 35 10,jD 36 .add 35 1,jM 10 36])))))) (rS [jM 63 7,jM 64 9,jX 65 1 63 64,jL 66 65,jD 67 .lss 66 0] (.cond
 (.t 67) (rS [jM 68 7,jM 69 9,jM 70 8,jK 71 1 70,jX 72 1 68 69,jW 1 72 71] (.region [jM 73 8,jM 74 9,oP 75 (.mk 2 1 [.int .i64 0] [(0,1,.t 74)]),oP 76 (.app 2 1 8 (.t 73) (.t 75)),jM 8 76])) .skip))))) (.region [jM 19 9,jD 20 .add 19 1,jM 9 20])))))) (rS [jM 77 7,jM 78 8,jK 79 1 78,
 jM 4 77,jM 5 79] .ret)))))⟩
def ir154:aM:=⟨[.cell 4 (some 4)],rS [jZ 4 25] (rS [jM 11 0,jN 12 11,jA 13 0 12,jL 14 13,jD 15 .add 14 1,jM 5 15] (rS [jM 16 5,jM 17 0,jN 18 17,jA 19 1 18,oP 20 (.load (some 25) none (.t 19)),jM 22 0,jN 23 22,jA 24 2 23,jL 25 24,oP 21 (.mk 4 0 [] []),oP 26 (.app 4 1 1 (.t 21)
 (.t 25)),oP 27 (.build [.int .i64 0,.int .i64 0,.nils,.nils] [(0,1,.t 16),(1,1,.t 20),(2,1,.t 26)]),jZ 6 25,jW 4 6 27] (.seq (rS [jI 7 0] (.block 0 (.loop (.seq (rS [jM 28 7,jM 29 0,jN 30 29,jA 31 2 30,jL 32 31,jK 33 1 32,jB 34 .lss 28 33] (kE 34 0)) (.seq (.block 1 (rS [oP 37
 (.mk 2 0 [] []),jM 8 37] (.seq (rS [jI 9 0] (.block 2 (.loop (.seq (rS [jM 38 9,jM 39 5,jC 40 100 [.t 39],jB 41 .lss 38 40] (kE 41 2)) (.seq (.block 3 (rS [jM 44 9,jM 45 5,jM 46 1,jC 47 204 [.t 44,.t 45,.t 46],jM 10 47] (rS [jM 48 10,jM 49 0,jN 50 49,jA 51 0 50,jL 52 51,jC 53 100
 [.t 52],jB 54 .eql 48 53] (.cond (.t 54) (.region [jM 55 8,jM 56 7,oP 57 (.mk 2 1 [.int .i64 0] [(0,1,.t 56)]),oP 58 (.app 2 1 8 (.t 55) (.t 57)),jM 8 58]) (.region [jM 59 8,jM 60 0,jN 61 60,jA 62 3 61,jL 63 62,jM 64 7,jX 65 1 63 64,jL 66 65,jM 67 10,jX 68 1 66 67,jL 69 68,oP 70
 (.mk 2 1 [.int .i64 0] [(0,1,.t 69)]),oP 71 (.app 2 1 8 (.t 59) (.t 70)),jM 8 71]))))) (.region [jM 42 9,jD 43 .add 42 1,jM 9 43])))))) (.region [jA 72 3 6,jL 73 72,jM 74 8,oP 75 (.mk 36 1 [.nils] [(0,1,.t 74)]),oP 76 (.app 36 1 24 (.t 73) (.t 75)),jA 77 3 6,jW 1 77 76])))) (.region
 [jM 35 7,jD 36 .add 35 1,jM 7 36])))))) (rS [jC 78 102 [.t 6],jW 4 4 78] .ret))))⟩
def ir155:aM:=⟨[.cell 6 (some 4),.tmp 7],rS [jZ 6 25,jI 7 0] (rS [jM 11 0,jC 12 102 [.t 11],jZ 8 25,jW 4 8 12] (rS [jM 13 1,jC 14 102 [.t 13],jZ 9 25,jW 4 9 14] (.seq (rS [jA 15 2 8,jL 16 15,jK 17 1 16,jA 18 2 9,jL 19 18,jK 20 1 19,jB 21 .mul 17 20,jD 22 .gtr 21 1000] (.cond
 (.t 22) (rS [jY 23,jW 4 6 23,jI 7 3] .ret) .skip)) (rS [jM 24 2,jC 25 205 [.t 8,.t 9,.t 24],jZ 10 25,jW 4 10 25] (rS [jC 26 102 [.t 10],jC 27 50 [.t 26],jE 28 0 27,jE 29 1 27,jW 4 6 28,jM 7 29] .ret)))))⟩
def ir156:aM:=⟨[.tmp 4],rS [jI 4 0] (.seq (rS [jM 5 0,jC 6 116 [.t 5],jJ 7 6,jM 8 7,oG 9 8 false (.mov (.t 1)),oG 10 8 false (.call (.c (.fn 116 [])) [.t 9]),oG 11 8 false (.not (.t 10)),jP 12 8 11 true] (.cond (.t 12) (rS [jI 4 1] .ret) .skip)) (.seq (rS [jM 13 0,jN 14 13,jA 15 0
 14,jL 16 15,jM 17 1,jN 18 17,jA 19 0 18,jL 20 19,jB 21 .neq 16 20] (.cond (.t 21) (rS [jI 4 2] .ret) .skip)) (rS [jI 4 0] .ret)))⟩
def ir164:aM:=⟨[.cell 10 (some 4),.tmp 11],rS [jT 6 150 1,jZ 10 77,jF 11 false] (rS [jM 22 0,oP 23 (.build [.int .i64 0,.int .i64 0,.nils,.nils] [(0,1,.t 22)]),jZ 12 77,jW 4 12 23] (rS [oP 24 .mkmap,oP 25 (.load none (some 2) (.t 6)),oS (.mset 5 (.t 24) (.t 25) (cI 0)),jM 26
 24,jM 13 26] (rS [oP 27 (.load none (some 2) (.t 6)),oP 28 (.mk 150 1 [.int .i64 0,.int .i64 0] [(0,2,.t 27)]),jM 14 28] (.seq (rS [jI 15 0] (.block 0 (.loop (.seq (rS [jM 29 15,jM 30 14,jK 31 1 30,jB 32 .lss 29 31] (kE 32 0)) (.seq (.block 1 (rS [jM 35 14,jM 36 15,jX 37 2 35 36,oP 38
 (.load none (some 2) (.t 37)),oP 16 (.new 150 [.int .i64 0,.int .i64 0]),jW 2 16 38] (rS [oP 17 (.mov (.c .nils))] (.seq (rS [jI 18 0] (.block 2 (.loop (.seq (rS [jM 39 18,jM 40 0,jC 41 94 [.t 40],jB 42 .lss 39 41] (kE 42 2)) (.seq (.block 3 (rS [jM 45 4,oP 46 (.load none (some 2) (.t 16)),
 jM 47 18,oP 48 (.call (.t 45) [.t 46,.t 47]),oP 19 (.new 150 [.int .i64 0,.int .i64 0]),jW 2 19 48] (rS [jM 50 13,oP 51 (.load none (some 2) (.t 19)),oP 52 (.look 5 true (.int .i64 0) (.t 50) (.t 51)),jM 49 52,jE 53 0 49,jE 54 1 49,jM 20 53,jM 21 54] (.seq (rS [jM 55 21,jJ 56 55]
 (.cond (.t 56) (rS [jM 57 14,jK 58 1 57,jM 20 58] (rS [jM 59 13,oP 60 (.load none (some 2) (.t 19)),jM 61 20,oS (.mset 5 (.t 59) (.t 60) (.t 61))] (rS [jM 62 14,oP 63 (.load none (some 2) (.t 19)),oP 64 (.mk 150 1 [.int .i64 0,.int .i64 0] [(0,2,.t 63)]),oP 65 (.app 150 2 16 (.t 62) (.t
 64)),jM 14 65] (rS [jM 66 2,jD 67 .gtr 66 0,jM 68 67,oG 69 68 true (.mov (.t 14)),oG 70 68 true (.len 1 (.t 69)),oG 71 68 true (.mov (.t 2)),oG 72 68 true (.bin .gtr (.t 70) (.t 71)),oP 73 (.pick (.t 68) (.t 72) (.c (.bool false)))] (.cond (.t 73) (rS [jY 74,jW 4 10 74,jF 11 false] .ret)
 .skip))))) .skip)) (.region [jM 75 17,jM 76 20,oP 77 (.mk 3 1 [.int .i64 0] [(0,1,.t 76)]),oP 78 (.app 3 1 8 (.t 75) (.t 77)),jM 17 78]))))) (.region [jM 43 18,jD 44 .add 43 1,jM 18 44])))))) (rS [jA 79 2 12,oP 80 (.load (some 77) none (.t 79)),jM 81 3,oP 82 (.load none (some 2) (.t
 16)),⟨some 83,.call (.t 81) [.t 82],none,[77]⟩,oP 84 (.mk 4 1 [.bool false] [(0,1,.t 83)]),oP 85 (.app 4 1 1 (.t 80) (.t 84)),jA 86 2 12,jW 1 86 85] (.region [jA 87 3 12,jL 88 87,jM 89 17,oP 90 (.mk 80 1 [.nils] [(0,1,.t 89)]),oP 91 (.app 80 1 24 (.t 88) (.t 90)),jA 92 3 12,jW 1
 92 91])))))) (.region [jM 33 15,jD 34 .add 33 1,jM 15 34])))))) (rS [jQ 93 12,jW 4 10 93,jF 11 true] .ret)))))⟩
def ir165:aM:=⟨[.tmp 3],rS [jT 2 150 0,jF 3 false] (rS [jA 4 1 2,jL 5 4,jD 6 .geq 5 0,jM 7 6,oG 8 7 true (.lea 2 (.t 1)),oG 9 7 true (.load none none (.t 8)),oG 10 7 true (.lea 0 (.t 2)),oG 11 7 true (.load none none (.t 10)),oG 12 7 true (.idx 1 (.t 9) (.t 11)),oG 13 7 true (.load
 none none (.t 12)),oP 14 (.pick (.t 7) (.t 13) (.c (.bool false))),jM 3 14] .ret)⟩
def ir166:aM:=⟨[.cell 6 (some 2)],rS [jT 4 150 0,oP 6 (.new 150 [.int .i64 0,.int .i64 0])] (.seq (rS [jA 7 1 4,jL 8 7,jD 9 .lss 8 0,jM 10 9,oG 11 10 false (.lea 1 (.t 4)),oG 12 10 false (.load none none (.t 11)),oG 13 10 false (.load none none (.t 2)),oG 14 10 false (.mov (.t 1)),
 oG 15 10 false (.idx 1 (.t 13) (.t 14)),oG 16 10 false (.load none none (.t 15)),oG 17 10 false (.bin .andNot (.t 12) (.t 16)),oG 18 10 false (.bin .neq (.t 17) (cI 0)),jP 19 10 18 true] (.cond (.t 19) (rS [oP 20 (.build [.int .i64 0,.int .i64 0] [(1,1,cI (-1))]),jW 2 6 20] .ret) .skip))
 (rS [jA 21 3 3,jL 22 21,jA 23 0 4,jL 24 23,jX 25 1 22 24,jL 26 25,jM 27 1,jX 28 1 26 27,jL 29 28,jL 30 2,jM 31 1,jX 32 1 30 31,jL 33 32,oP 34 (.build [.int .i64 0,.int .i64 0] [(0,1,.t 29),(1,1,.t 33)]),jW 2 6 34] .ret))⟩
def ir167:aM:=⟨[.cell 2 (some 4)],rS [jT 1 77 0,jZ 2 77] (rS [jA 21 2 1,jL 22 21,jK 23 1 22,oP 24 (.mksl 3 8 [.int .i64 0] (.t 23) (.t 23)),oP 3 (.new 80 [.nils]),jW 1 3 24] (.seq (rS [jA 25 2 1,jL 26 25,jK 27 1 26,jI 28 0] (.block 0 (.loop (rS [jB 29 .lss 28 27] (.seq (kE 29 0)
 (.seq (.block 1 (rS [jM 30 28,jX 31 1 26 28,jL 32 31,jM 4 30,jM 5 32] (rS [jM 33 5] (.cond (.t 33) (.region [jL 34 3,jM 35 4,jX 36 1 34 35,oS (.store none 1 (.t 36) (cI 1))]) .skip)))) (.region [jD 37 .add 28 1,jM 28 37]))))))) (.seq (rS [jI 6 0] (.block 2 (.loop (.block 3 (rS [oP 38
 .mkmap,jM 7 38] (rS [jL 39 3,jK 40 1 39,oP 41 (.mksl 3 8 [.int .i64 0] (.t 40) (.t 40)),jM 8 41] (.seq (rS [jA 42 3 1,jL 43 42,jK 44 1 43,jI 45 0] (.block 4 (.loop (rS [jB 46 .lss 45 44] (.seq (kE 46 4) (.seq (.block 5 (rS [jM 47 45,jX 48 1 43 45,jL 49 48,jM 9 47,jM 10 49] (rS [jL 50 3,
 jM 51 9,jX 52 1 50 51,jL 53 52,jC 54 210 [.t 53],jM 11 54] (.seq (rS [jM 55 10,jK 56 1 55,jI 57 0] (.block 6 (.loop (rS [jB 58 .lss 57 56] (.seq (kE 58 6) (.seq (.block 7 (rS [jX 59 1 55 57,jL 60 59,jM 13 60] (.region [jM 61 11,jL 62 3,jM 63 13,jX 64 1 62 63,jL 65 64,jC 66 210 [.t
 65],oP 67 (.bin .add (.c (.str ⟨#[44]⟩)) (.t 66)),jB 68 .add 61 67,jM 11 68]))) (.region [jD 69 .add 57 1,jM 57 69]))))))) (rS [jM 71 7,jM 72 11,oP 73 (.look 1 true (.int .i64 0) (.t 71) (.t 72)),jM 70 73,jE 74 0 70,jE 75 1 70,jM 14 74,jM 15 75] (.seq (rS [jM 76 15,jJ 77 76] (.cond (.t
 77) (rS [jM 78 7,jK 79 2 78,jM 14 79] (.region [jM 80 7,jM 81 11,jM 82 14,oS (.mset 1 (.t 80) (.t 81) (.t 82))])) .skip)) (.region [jM 83 8,jM 84 9,jM 85 14,jX 86 1 83 84,jW 1 86 85]))))))) (.region [jD 87 .add 45 1,jM 45 87]))))))) (rS [jM 88 8,jW 1 3 88] (.seq (rS [jM 89 7,jK 90 2
 89,jM 91 6,jB 92 .eql 90 91] (.cond (.t 92) (.exit 2) .skip)) (.region [jM 93 7,jK 94 2 93,jM 6 94])))))))))) (rS [jL 95 3,jK 96 1 95,oP 97 (.mksl 3 8 [.int .i64 0] (.t 96) (.t 96)),oP 16 (.new 80 [.nils]),jW 1 16 97] (.seq (rS [jL 98 3,jK 99 1 98,jI 100 0] (.block 8 (.loop (rS [jB 101
 .lss 100 99] (.seq (kE 101 8) (.seq (.block 9 (rS [jM 102 100,jX 103 1 98 100,jL 104 103,jM 17 102,jM 18 104] (.region [jL 105 16,jM 106 18,jM 107 17,jX 108 1 105 106,jW 1 108 107]))) (.region [jD 109 .add 100 1,jM 100 109]))))))) (rS [jA 111 0 1,jL 112 111,jL 113 3,jA 114 1 1,jL 115
 114,jX 116 1 113 115,jL 117 116,oP 118 (.mkfn 211 [.t 1,.t 16]),oP 119 (.mkfn 212 [.t 3,.t 1,.t 16]),jC 120 66 [.t 112,.t 117,cI 0,.t 118,.t 119],jM 110 120,jE 121 0 110,jE 122 1 110,jZ 19 77,jW 4 19 121,jM 20 122] (rS [jQ 123 19,jW 4 2 123] .ret)))))))⟩
def ir168:aM:=⟨[.tmp 2],rS [oP 2 (.mov (.c .nils))] (rS [oP 3 (.mov (.c .nils))] (.seq (rS [jM 6 0,jK 7 1 6,jI 8 0] (.block 0 (.loop (rS [jB 9 .lss 8 7] (.seq (kE 9 0) (.seq (.block 1 (rS [jX 10 1 6 8,jL 11 10,jM 5 11] (.region [jM 12 3,jM 13 5,oP 14 (.mk 2 1 [.int .i64 0] [(0,1,.t
 13)]),oP 15 (.app 2 1 8 (.t 12) (.t 14)),jM 3 15]))) (.region [jD 16 .add 8 1,jM 8 16]))))))) (rS [jM 17 3,jM 2 17] .ret)))⟩
def ir169:aM:=⟨[.tmp 4],rS [jT 2 25 0,jF 4 false] (rS [jM 5 1,jA 6 0 2,jL 7 6,jD 8 .sub 7 1,jC 9 45 [.t 5,cI 0,.t 8],jM 4 9] .ret)⟩
def ir170:aM:=⟨[.tmp 6],rS [jI 6 0] (rS [jM 7 0,jC 8 214 [.t 7],jM 9 1,jM 10 2,oP 11 (.mk 3 1 [.int .i64 0] [(0,1,.t 10)]),jC 12 213 [.t 8,.t 9,.t 11],jC 13 107 [.t 12],jM 6 13] .ret)⟩
def ir171:aM:=⟨[.tmp 2],rS [oP 2 (.mov (.c .nils))] (rS [oP 3 (.mov (.c .nils))] (.seq (.block 0 (.loop (.seq (rS [jM 4 0,jD 5 .gtr 4 0] (kE 5 0)) (.seq (.block 1 (.region [jM 8 3,oP 9 (.mk 3 1 [.int .i64 0] [(0,1,cI 2)]),oP 10 (.app 3 1 8 (.t 8) (.t 9)),jM 3 10])) (.region [jM 6 0,jD
 7 .sub 6 1,jM 0 7]))))) (rS [jM 11 3,jM 2 11] .ret)))⟩
def ir172:aM:=⟨[.cell 10 (some 4),.tmp 11],rS [jZ 10 77,jF 11 false] (rS [jM 22 0,oP 23 (.build [.int .i64 0,.int .i64 0,.nils,.nils] [(0,1,.t 22)]),jZ 12 77,jW 4 12 23] (rS [oP 24 .mkmap,jM 25 1,oS (.mset 1 (.t 24) (.t 25) (cI 0)),jM 26 24,jM 13 26] (rS [jM 27 1,oP 28 (.mk 9
 1 [.str ⟨#[]⟩] [(0,1,.t 27)]),jM 14 28] (.seq (rS [jI 15 0] (.block 0 (.loop (.seq (rS [jM 29 15,jM 30 14,jK 31 1 30,jB 32 .lss 29 31] (kE 32 0)) (.seq (.block 1 (rS [jM 35 14,jM 36 15,jX 37 1 35 36,jL 38 37,jM 16 38] (rS [oP 17 (.mov (.c .nils))] (.seq (rS [jI 18 0] (.block 2 (.loop
 (.seq (rS [jM 39 18,jM 40 0,jC 41 94 [.t 40],jB 42 .lss 39 41] (kE 42 2)) (.seq (.block 3 (rS [jM 45 4,jM 46 16,jM 47 18,oP 48 (.call (.t 45) [.t 46,.t 47]),jM 19 48] (rS [jM 50 13,jM 51 19,oP 52 (.look 1 true (.int .i64 0) (.t 50) (.t 51)),jM 49 52,jE 53 0 49,jE 54 1 49,jM 20 53,jM
 21 54] (.seq (rS [jM 55 21,jJ 56 55] (.cond (.t 56) (rS [jM 57 14,jK 58 1 57,jM 20 58] (rS [jM 59 13,jM 60 19,jM 61 20,oS (.mset 1 (.t 59) (.t 60) (.t 61))] (rS [jM 62 14,jM 63 19,oP 64 (.mk 9 1 [.str ⟨#[]⟩] [(0,1,.t 63)]),oP 65 (.app 9 1 16 (.t 62) (.t 64)),jM 14 65] (rS [jM 66 2,jD
 67 .gtr 66 0,jM 68 67,oG 69 68 true (.mov (.t 14)),oG 70 68 true (.len 1 (.t 69)),oG 71 68 true (.mov (.t 2)),oG 72 68 true (.bin .gtr (.t 70) (.t 71)),oP 73 (.pick (.t 68) (.t 72) (.c (.bool false)))] (.cond (.t 73) (rS [jY 74,jW 4 10 74,jF 11 false] .ret) .skip))))) .skip)) (.region [jM
 75 17,jM 76 20,oP 77 (.mk 3 1 [.int .i64 0] [(0,1,.t 76)]),oP 78 (.app 3 1 8 (.t 75) (.t 77)),jM 17 78]))))) (.region [jM 43 18,jD 44 .add 43 1,jM 18 44])))))) (rS [jA 79 2 12,oP 80 (.load (some 77) none (.t 79)),jM 81 3,jM 82 16,⟨some 83,.call (.t 81) [.t 82],none,[77]⟩,oP 84 (.mk
 4 1 [.bool false] [(0,1,.t 83)]),oP 85 (.app 4 1 1 (.t 80) (.t 84)),jA 86 2 12,jW 1 86 85] (.region [jA 87 3 12,jL 88 87,jM 89 17,oP 90 (.mk 80 1 [.nils] [(0,1,.t 89)]),oP 91 (.app 80 1 24 (.t 88) (.t 90)),jA 92 3 12,jW 1 92 91])))))) (.region [jM 33 15,jD 34 .add 33 1,jM 15
 34])))))) (rS [jQ 93 12,jW 4 10 93,jF 11 true] .ret)))))⟩
def ir173:aM:=⟨[.tmp 2],rS [oP 2 (.mov (.c (.str ⟨#[]⟩)))] (rS [jM 6 0,jK 7 1 6,oP 8 (.mksl 5 1 [.int .u8 0] (.t 7) (.t 7)),jM 3 8] (.seq (rS [jM 9 0,jK 10 1 9,jI 11 0] (.block 0 (.loop (rS [jB 12 .lss 11 10] (.seq (kE 12 0) (.seq (.block 1 (rS [jM 13 11,jX 14 1 9 11,jL 15 14,jM 4
 13,jM 5 15] (rS [jM 16 5] (.cond (.t 16) (.region [jM 17 3,jM 18 4,jX 19 1 17 18,oS (.store none 1 (.t 19) (.c (.int .u8 1)))]) .skip)))) (.region [jD 20 .add 11 1,jM 11 20]))))))) (rS [jM 21 3,oP 22 (.b2s 5 (.t 21)),jM 2 22] .ret)))⟩
def ir174:aM:=⟨[.tmp 3],rS [jF 3 false] (.seq (rS [jL 6 1,jK 7 1 6,jI 8 0] (.block 0 (.loop (rS [jB 9 .lss 8 7] (.seq (kE 9 0) (.seq (.block 1 (rS [jM 10 8,jX 11 1 6 8,jL 12 11,jM 4 10,jM 5 12] (rS [jM 13 5,jM 14 13,oG 15 14 true (.mov (.t 0)),oG 16 14 true (.mov (.t 4)),oG 17 14
 true (.idxs (.t 15) (.t 16)),oG 18 14 true (.bin .eql (.t 17) (.c (.int .u8 1))),oP 19 (.pick (.t 14) (.t 18) (.c (.bool false)))] (.cond (.t 19) (rS [jF 3 true] .ret) .skip)))) (.region [jD 20 .add 8 1,jM 8 20]))))))) (rS [jF 3 false] .ret))⟩
def ir175:aM:=⟨[.tmp 6],rS [oP 6 (.mov (.c (.str ⟨#[]⟩)))] (rS [jA 12 0 2,jL 13 12,jD 14 .sub 13 1,jM 15 1,jC 16 95 [.t 14,.t 15],jM 7 16] (rS [jA 17 2 2,jL 18 17,jK 19 1 18,oP 20 (.mksl 4 1 [.bool false] (.t 19) (.t 19)),jM 8 20] (.seq (rS [jI 9 0] (.block 0 (.loop (.seq (rS [jM
 21 9,jD 22 .leq 21 2] (kE 22 0)) (.seq (.block 1 (rS [jM 25 7,jL 26 3,jM 27 9,jC 28 170 [.t 25,.t 26,.t 27],jM 10 28] (rS [jM 29 8,jK 30 1 29,jI 31 0] (.block 2 (.loop (rS [jB 32 .lss 31 30] (.seq (kE 32 2) (.seq (.block 3 (rS [jM 33 31,jM 11 33] (rS [jM 34 0,jM 35 11,oP 36 (.idxs (.t
 34) (.t 35)),oP 37 (.bin .eql (.t 36) (.c (.int .u8 1)))] (.cond (.t 37) (.region [jM 38 8,jA 39 3 2,jL 40 39,jM 41 11,jX 42 1 40 41,jL 43 42,jM 44 10,jX 45 1 43 44,jL 46 45,jX 47 1 38 46,oS (.store none 1 (.t 47) (.c (.bool true)))]) .skip)))) (.region [jD 48 .add 31 1,jM 31
 48]))))))))) (.region [jM 23 9,jD 24 .add 23 1,jM 9 24])))))) (rS [jM 49 8,jC 50 173 [.t 49],jM 6 50] .ret))))⟩
def ir176:aM:=⟨[.tmp 2],rS [jF 2 false] (rS [jM 6 0,jN 7 6,jA 8 2 7,jL 9 8,jK 10 1 9,jM 3 10] (.seq (rS [jM 11 0,jN 12 11,jA 13 0 12,jL 14 13,jC 15 48 [.t 14,cI 1,cI 3],jJ 16 15,jM 17 16,oG 18 17 false (.mov (.t 3)),oG 19 17 false (.bin .lss (.t 18) (cI 1)),jP 20 17 19 true,
 jM 21 20,oG 22 21 false (.mov (.t 0)),oG 23 21 false (.nilck (.t 22)),oG 24 21 false (.lea 1 (.t 23)),oG 25 21 false (.load none none (.t 24)),oG 26 21 false (.mov (.t 3)),oG 27 21 false (.bin .sub (.t 26) (cI 1)),oG 28 21 false (.call (.c (.fn 48 [])) [.t 25,cI 0,.t 27]),oG 29 21 false
 (.not (.t 28)),jP 30 21 29 true,jM 31 30,oG 32 31 false (.mov (.t 0)),oG 33 31 false (.nilck (.t 32)),oG 34 31 false (.lea 3 (.t 33)),oG 35 31 false (.load none none (.t 34)),oG 36 31 false (.len 1 (.t 35)),oG 37 31 false (.mov (.t 3)),oG 38 31 false (.bin .neq (.t 36) (.t 37)),jP 39 31
 38 true] (.cond (.t 39) (rS [jF 2 false] .ret) .skip)) (.seq (rS [jI 4 0] (.block 0 (.loop (.seq (rS [jM 40 4,jM 41 0,jN 42 41,jA 43 3 42,jL 44 43,jK 45 1 44,jB 46 .lss 40 45] (kE 46 0)) (.seq (.block 1 (.seq (rS [jM 49 0,jN 50 49,jA 51 3 50,oP 52 (.load (some 25) none (.t 51)),jM 53 4,
 jX 54 1 52 53,oP 55 (.load (some 36) none (.t 54)),jK 56 1 55,jM 57 0,jN 58 57,jA 59 0 58,jL 60 59,⟨some 61,.call (.c (.fn 100 [])) [.t 60],none,[25,36]⟩,jB 62 .neq 56 61] (.cond (.t 62) (rS [jF 2 false] .ret) .skip)) (rS [jI 5 0] (.block 2 (.loop (.seq (rS [jM 63 5,jM 64 0,jN 65 64,
 jA 66 3 65,jL 67 66,jM 68 4,jX 69 1 67 68,jL 70 69,jK 71 1 70,jB 72 .lss 63 71] (kE 72 2)) (.seq (.block 3 (rS [jM 75 0,jN 76 75,jA 77 3 76,jL 78 77,jM 79 4,jX 80 1 78 79,jL 81 80,jM 82 5,jX 83 1 81 82,jL 84 83,jM 85 3,jD 86 .sub 85 1,jC 87 48 [.t 84,cI 0,.t 86],jJ 88 87]
 (.cond (.t 88) (rS [jF 2 false] .ret) .skip))) (.region [jM 73 5,jD 74 .add 73 1,jM 5 74])))))))) (.region [jM 47 4,jD 48 .add 47 1,jM 4 48])))))) (rS [jF 2 true] .ret))))⟩
def ir177:aM:=⟨[.tmp 4,.tmp 5],rS [jT 2 25 0,jT 3 25 1,jF 4 false,jI 5 0] (.seq (rS [jC 12 156 [.t 2,.t 3],jM 6 12] (rS [jM 13 6,jD 14 .neq 13 0] (.cond (.t 14) (rS [jM 15 6,jF 4 false,jM 5 15] .ret) .skip))) (rS [jC 16 102 [.t 2],jZ 7 25,jW 4 7 16] (rS [jC 17 102 [.t 3],jZ 8 25,
 jW 4 8 17] (rS [jC 18 205 [.t 7,.t 8,cI 3],jZ 9 25,jW 4 9 18] (rS [jC 20 135 [.t 9],jM 19 20,jE 21 0 19,jE 22 1 19,jM 10 21,jM 11 22] (rS [jM 23 11,jJ 24 23,jM 4 24,jI 5 0] .ret))))))⟩
def ir178:aM:=⟨[.tmp 4],rS [jI 4 0] (.seq (rS [jM 5 0,jC 6 116 [.t 5],jJ 7 6] (.cond (.t 7) (rS [jI 4 1] .ret) .skip)) (.seq (rS [jM 8 1,jM 9 0,jN 10 9,jA 11 0 10,jL 12 11,jD 13 .sub 12 1,jC 14 48 [.t 8,cI 0,.t 13],jJ 15 14] (.cond (.t 15) (rS [jI 4 2] .ret) .skip)) (rS [jI 4 0]
 .ret)))⟩
def ir179:aM:=⟨[.cell 2 (some 4)],rS [jZ 2 25] (rS [jM 5 0,jN 6 5,jA 7 0 6,oP 8 (.load (some 25) none (.t 7)),jM 9 0,jN 10 9,jA 11 1 10,oP 12 (.load (some 25) none (.t 11)),jM 14 0,jN 15 14,jA 16 2 15,jL 17 16,oP 13 (.mk 4 0 [] []),oP 18 (.app 4 1 1 (.t 13) (.t 17)),oP 19
 (.build [.int .i64 0,.int .i64 0,.nils,.nils] [(0,1,.t 8),(1,1,.t 12),(2,1,.t 18)]),jZ 3 25,jW 4 3 19] (.seq (rS [jI 4 0] (.block 0 (.loop (.seq (rS [jM 20 4,jM 21 0,jN 22 21,jA 23 3 22,jL 24 23,jK 25 1 24,jB 26 .lss 20 25] (kE 26 0)) (.seq (.block 1 (.region [jA 29 3 3,oP 30
 (.load (some 25) none (.t 29)),jM 31 0,jN 32 31,jA 33 3 32,jL 34 33,jM 35 4,jX 36 1 34 35,jL 37 36,⟨some 38,.call (.c (.fn 215 [])) [.t 37],none,[25]⟩,oP 39 (.mk 36 1 [.nils] [(0,1,.t 38)]),oP 40 (.app 36 1 24 (.t 30) (.t 39)),jA 41 3 3,jW 1 41 40])) (.region [jM 27 4,jD 28 .add
 27 1,jM 4 28])))))) (rS [jQ 42 3,jW 4 2 42] .ret)))⟩
def ir180:aM:=⟨[.cell 4 (some 4),.tmp 5],rS [jZ 4 25,jI 5 0] (rS [jM 15 0,jC 16 102 [.t 15],jZ 6 25,jW 4 6 16] (rS [jA 17 1 6,jL 18 17,oP 19 (.mk 2 1 [.int .i64 0] [(0,1,.t 18)]),oP 20 (.mk 36 1 [.nils] [(0,1,.t 19)]),jM 7 20] (rS [jA 21 0 6,jL 22 21,jD 23 .sub 22 1,oP 24
 (.build [.int .i64 0,.int .i64 0,.nils,.nils] [(0,1,.t 23)]),jZ 8 25,jW 4 8 24] (.seq (rS [jI 9 0] (.block 0 (.loop (.seq (rS [jM 25 9,jM 26 7,jK 27 1 26,jB 28 .lss 25 27] (kE 28 0)) (.seq (.block 1 (rS [oP 31 (.mk 2 0 [] []),jM 10 31] (.seq (rS [jI 11 0] (.block 2 (.loop (.seq (rS [jM
 32 11,jA 33 0 8,jL 34 33,jC 35 100 [.t 34],jB 36 .lss 32 35] (kE 36 2)) (.seq (.block 3 (rS [jM 39 7,jM 40 9,jX 41 1 39 40,jL 42 41,jM 43 11,jM 44 1,jC 45 216 [.t 6,.t 42,.t 43,.t 44,.c (.bool true)],jM 12 45] (rS [jI 13 (-1)] (.seq (rS [jI 14 0] (.block 4 (.loop (.seq (rS [jM 46
 14,jM 47 7,jK 48 1 47,jB 49 .lss 46 48,jM 50 49,oG 51 50 true (.mov (.t 13)),oG 52 50 true (.bin .lss (.t 51) (cI 0)),oP 53 (.pick (.t 50) (.t 52) (.c (.bool false)))] (kE 53 4)) (.seq (.block 5 (rS [jM 56 7,jM 57 14,jX 58 1 56 57,jL 59 58,jM 60 12,jC 61 55 [.t 59,.t 60]] (.cond (.t
 61) (.region [jM 62 14,jM 13 62]) .skip))) (.region [jM 54 14,jD 55 .add 54 1,jM 14 55])))))) (.seq (rS [jM 63 13,jD 64 .lss 63 0] (.cond (.t 64) (rS [jM 65 7,jK 66 1 65,jM 13 66] (.region [jM 67 7,jM 68 12,oP 69 (.mk 36 1 [.nils] [(0,1,.t 68)]),oP 70 (.app 36 1 24 (.t 67) (.t 69)),jM
 7 70])) .skip)) (.region [jM 71 10,jM 72 13,oP 73 (.mk 2 1 [.int .i64 0] [(0,1,.t 72)]),oP 74 (.app 2 1 8 (.t 71) (.t 73)),jM 10 74])))))) (.region [jM 37 11,jD 38 .add 37 1,jM 11 38])))))) (.seq (rS [jM 75 7,jK 76 1 75,jD 77 .gtr 76 1000] (.cond (.t 77) (rS [jY 78,jW 4 4 78,jI 5 3]
 .ret) .skip)) (rS [jA 79 2 8,oP 80 (.load (some 25) none (.t 79)),jM 81 7,jM 82 9,jX 83 1 81 82,jL 84 83,jM 85 1,⟨some 86,.call (.c (.fn 217 [])) [.t 6,.t 84,.t 85],none,[25]⟩,oP 87 (.mk 4 1 [.bool false] [(0,1,.t 86)]),oP 88 (.app 4 1 1 (.t 80) (.t 87)),jA 89 2 8,jW 1 89 88]
 (.region [jA 90 3 8,jL 91 90,jM 92 10,oP 93 (.mk 36 1 [.nils] [(0,1,.t 92)]),oP 94 (.app 36 1 24 (.t 91) (.t 93)),jA 95 3 8,jW 1 95 94])))))) (.region [jM 29 9,jD 30 .add 29 1,jM 9 30])))))) (rS [jC 96 102 [.t 8],jC 97 50 [.t 96],jE 98 0 97,jE 99 1 97,jW 4 4 98,jM 5 99] .ret)))))⟩
def ir181:aM:=⟨[.tmp 4],rS [jI 4 0] (rS [jM 6 0,jM 7 1,jC 8 178 [.t 6,.t 7],jM 5 8] (.seq (rS [jM 9 5,jD 10 .eql 9 0,jM 11 10,oG 12 11 true (.mov (.t 0)),oG 13 11 true (.nilck (.t 12)),oG 14 11 true (.lea 0 (.t 13)),oG 15 11 true (.load none none (.t 14)),oG 16 11 true (.bin .eql
 (.t 15) (cI 1)),oP 17 (.pick (.t 11) (.t 16) (.c (.bool false)))] (.cond (.t 17) (.region [jI 5 2]) .skip)) (rS [jM 18 5,jM 4 18] .ret)))⟩
def ir182:aM:=⟨[.tmp 4,.tmp 5],rS [jT 2 25 0,jT 3 25 1,jF 4 false,jI 5 0] (.seq (rS [jQ 7 2,jQ 8 3,jC 9 218 [.t 7,.t 8],jM 6 9] (rS [jM 10 6,jD 11 .neq 10 0] (.cond (.t 11) (rS [jM 12 6,jF 4 false,jM 5 12] .ret) .skip))) (rS [jQ 13 2,oP 15 (.load (some 25) (some 4) (.t 3)),⟨some
 14,.call (.c (.fn 113 [])) [.t 13],none,[25]⟩,jC 16 113 [.t 15],oP 17 (.call (.c (.fn 219 [])) [.t 14,.t 16,.c (.fn 220 [])]),jC 18 139 [.t 17],jM 4 18,jI 5 0] .ret))⟩
def ir183:aM:=⟨[.cell 6 (some 4)],rS [jT 3 77 0,jZ 6 77] (rS [jM 15 1,jC 16 94 [.t 15],oP 17 (.mksl 3 8 [.int .i64 0] (.t 16) (.t 16)),jM 7 17] (.seq (rS [jM 18 7,jK 19 1 18,jI 20 0] (.block 0 (.loop (rS [jB 21 .lss 20 19] (.seq (kE 21 0) (.seq (.block 1 (rS [jM 22 20,jM 8 22]
 (.region [jM 23 7,jM 24 8,jM 25 2,jM 26 1,jM 27 8,jC 28 95 [.t 26,.t 27],oP 29 (.call (.t 25) [.t 28]),jC 30 107 [.t 29],jX 31 1 23 24,jW 1 31 30]))) (.region [jD 32 .add 20 1,jM 20 32]))))))) (rS [jM 33 1,jA 34 1 3,oP 35 (.load (some 77) none (.t 34)),jA 36 2 3,jL 37 36,⟨some 38,
 .call (.c (.fn 106 [])) [.t 37],none,[77]⟩,oP 39 (.build [.int .i64 0,.int .i64 0,.nils,.nils] [(0,1,.t 33),(1,1,.t 35),(2,1,.t 38)]),jZ 9 77,jW 4 9 39] (.seq (rS [jA 40 2 3,jL 41 40,jK 42 1 41,jI 43 0] (.block 2 (.loop (rS [jB 44 .lss 43 42] (.seq (kE 44 2) (.seq (.block 3 (rS
 [jM 45 43,jM 10 45] (rS [oP 11 (.mov (.c .nils))] (.seq (rS [jM 46 7,jK 47 1 46,jI 48 0] (.block 4 (.loop (rS [jB 49 .lss 48 47] (.seq (kE 49 4) (.seq (.block 5 (rS [jX 50 1 46 48,jL 51 50,jM 13 51] (rS [jM 52 10,jM 14 52] (.seq (rS [jM 53 13,jA 54 0 3,jL 55 54,jC 56 94 [.t 55],jB 57
 .lss 53 56] (.cond (.t 57) (.region [jA 58 3 3,jL 59 58,jM 60 10,jX 61 1 59 60,jL 62 61,jM 63 13,jX 64 1 62 63,jL 65 64,jM 14 65]) .skip)) (.region [jM 66 11,jM 67 14,oP 68 (.mk 3 1 [.int .i64 0] [(0,1,.t 67)]),oP 69 (.app 3 1 8 (.t 66) (.t 68)),jM 11 69]))))) (.region [jD 70 .add 48
 1,jM 48 70]))))))) (.region [jA 71 3 9,jL 72 71,jM 73 11,oP 74 (.mk 80 1 [.nils] [(0,1,.t 73)]),oP 75 (.app 80 1 24 (.t 72) (.t 74)),jA 76 3 9,jW 1 76 75]))))) (.region [jD 77 .add 43 1,jM 43 77]))))))) (rS [jQ 78 9,jW 4 6 78] .ret)))))⟩
def ir184:aM:=⟨[.tmp 3],rS [oP 3 (.mov (.c .nils))] (rS [jM 4 0,jL 5 1,jL 6 1,jD 7 .add 6 1,jC 8 185 [.t 4,.t 5,.t 7],jM 3 8] .ret)⟩
def ir186:aM:=⟨[.tmp 3],rS [jF 3 false] (rS [jM 4 0,jD 5 .geq 4 0,jM 6 5,oG 7 6 true (.lea 2 (.t 1)),oG 8 6 true (.load none none (.t 7)),oG 9 6 true (.mov (.t 0)),oG 10 6 true (.idx 1 (.t 8) (.t 9)),oG 11 6 true (.load none none (.t 10)),oP 12 (.pick (.t 6) (.t 11) (.c (.bool
 false))),jM 3 12] .ret)⟩
def ir187:aM:=⟨[.tmp 7],rS [jI 7 0] (.seq (rS [jA 9 0 2,jL 10 9,jM 11 1,jC 12 95 [.t 10,.t 11],jM 8 12] (rS [jM 13 0,jD 14 .lss 13 0,jM 15 14,oG 16 15 false (.mov (.t 8)),oG 17 15 false (.load none none (.t 3)),oG 18 15 false (.idx 1 (.t 16) (.t 17)),oG 19 15 false (.load none
 none (.t 18)),oG 20 15 false (.mov (.t 8)),oG 21 15 false (.load none none (.t 4)),oG 22 15 false (.idx 1 (.t 20) (.t 21)),oG 23 15 false (.load none none (.t 22)),oG 24 15 false (.bin .neq (.t 19) (.t 23)),jP 25 15 24 true] (.cond (.t 25) (rS [jI 7 (-1)] .ret) .skip))) (rS [jA 26 3 2,jL 27
 26,jM 28 0,jX 29 1 27 28,jL 30 29,jM 31 1,jX 32 1 30 31,jL 33 32,jM 7 33] .ret))⟩
def ir188:aM:=⟨[.cell 6 (some 4),.tmp 7],rS [jT 3 25 0,jT 4 25 1,jZ 6 25,jI 7 0] (.seq (rS [jQ 11 3,jQ 12 4,jC 13 218 [.t 11,.t 12],jM 8 13] (rS [jM 14 8,jD 15 .neq 14 0] (.cond (.t 15) (rS [jY 16,jM 17 8,jW 4 6 16,jM 7 17] .ret) .skip))) (rS [jQ 18 3,oP 20 (.load (some 25)
 (some 4) (.t 4)),⟨some 19,.call (.c (.fn 113 [])) [.t 18],none,[25]⟩,jC 21 113 [.t 20],jZ 9 77,jZ 10 77,jW 4 9 19,jW 4 10 21] (.seq (rS [jA 22 2 9,jL 23 22,jK 24 1 23,jA 25 2 10,jL 26 25,jK 27 1 26,jB 28 .mul 24 27,jD 29 .gtr 28 1000] (.cond (.t 29) (rS [jY 30,jW 4 6 30,jI 7 3]
 .ret) .skip)) (rS [jQ 31 9,jQ 32 10,jM 33 2,jC 34 219 [.t 31,.t 32,.t 33],jC 35 69 [.t 34],jE 36 0 35,jE 37 1 35,jW 4 6 36,jM 7 37] .ret))))⟩
def ir189:aM:=⟨[.tmp 4],rS [jF 4 false] (rS [jM 5 0,jM 6 5,oG 7 6 false (.mov (.t 1)),jP 8 6 7 true,jM 4 8] .ret)⟩
def ir190:aM:=⟨[.tmp 4],rS [jF 4 false] (rS [jM 5 0,jM 6 5,oG 7 6 true (.mov (.t 1)),oP 8 (.pick (.t 6) (.t 7) (.c (.bool false))),jM 4 8] .ret)⟩
def ir191:aM:=⟨[.tmp 4],rS [jF 4 false] (rS [jM 5 0,jM 6 5,oG 7 6 true (.mov (.t 1)),oG 8 6 true (.not (.t 7)),oP 9 (.pick (.t 6) (.t 8) (.c (.bool false))),jM 4 9] .ret)⟩
def ir192:aM:=⟨[.tmp 4],rS [jF 4 false] (rS [jM 5 0,jM 6 1,jC 7 221 [.t 5,.t 6],jD 8 .geq 7 0,jM 4 8] .ret)⟩
def ir193:aM:=⟨[.tmp 6],rS [oP 6 (.mov (.c .nils))] (rS [jM 14 0,jN 15 14,jA 16 2 15,jL 17 16,jK 18 1 17,oP 19 (.mksl 2 8 [.int .i64 0] (.t 18) (.t 18)),jM 7 19] (.seq (rS [jI 8 0] (.block 0 (.loop (.seq (rS [jM 20 8,jM 21 0,jN 22 21,jA 23 2 22,jL 24 23,jK 25 1 24,jB 26 .lss 20
 25] (kE 26 0)) (.seq (.block 1 (rS [jM 29 0,jN 30 29,jA 31 2 30,jL 32 31,jM 33 8,jX 34 1 32 33,jL 35 34] (.cond (.t 35) (.region [jM 36 7,jM 37 8,jX 38 1 36 37,oS (.store none 1 (.t 38) (cI 1))]) .skip))) (.region [jM 27 8,jD 28 .add 27 1,jM 8 28])))))) (rS [jM 39 7,oP 40 (.mk 36 1
 [.nils] [(0,1,.t 39)]),jM 9 40] (.seq (rS [jI 10 1] (.block 2 (.loop (.seq (rS [jM 41 10,jM 42 1,jB 43 .leq 41 42] (kE 43 2)) (.seq (.block 3 (rS [jM 46 0,jN 47 46,jA 48 2 47,jL 49 48,jK 50 1 49,oP 51 (.mksl 2 8 [.int .i64 0] (.t 50) (.t 50)),jM 11 51] (.seq (rS [jI 12 0] (.block 4
 (.loop (.seq (rS [jM 52 12,jM 53 0,jN 54 53,jA 55 2 54,jL 56 55,jK 57 1 56,jB 58 .lss 52 57] (kE 58 4)) (.seq (.block 5 (rS [jI 13 0] (.block 6 (.loop (.seq (rS [jM 61 13,jM 62 0,jN 63 62,jA 64 3 63,jL 65 64,jM 66 12,jX 67 1 65 66,jL 68 67,jK 69 1 68,jB 70 .lss 61 69] (kE 70 6))
 (.seq (.block 7 (.region [jM 73 11,jM 74 12,jM 75 11,jM 76 12,jX 77 1 75 76,jL 78 77,jM 79 7,jM 80 0,jN 81 80,jA 82 3 81,jL 83 82,jM 84 12,jX 85 1 83 84,jL 86 85,jM 87 13,jX 88 1 86 87,jL 89 88,jX 90 1 79 89,jL 91 90,jB 92 .add 78 91,jM 93 2,jC 94 222 [.t 92,.t 93],jX 95 1
 73 74,jW 1 95 94])) (.region [jM 71 13,jD 72 .add 71 1,jM 13 72]))))))) (.region [jM 59 12,jD 60 .add 59 1,jM 12 60])))))) (rS [jM 96 11,jM 7 96] (.region [jM 97 9,jM 98 7,oP 99 (.mk 36 1 [.nils] [(0,1,.t 98)]),oP 100 (.app 36 1 24 (.t 97) (.t 99)),jM 9 100]))))) (.region [jM 44 10,jD
 45 .add 44 1,jM 10 45])))))) (rS [jM 101 9,jM 6 101] .ret)))))⟩
def ir194:aM:=⟨[.tmp 4],rS [jI 4 0] (rS [jM 7 0,jM 8 1,jC 9 195 [.t 7,.t 8],jM 5 9] (.seq (rS [jI 6 0] (.block 0 (.loop (.seq (rS [jM 10 6,jM 11 0,jN 12 11,jA 13 2 12,jL 14 13,jK 15 1 14,jB 16 .lss 10 15] (kE 16 0)) (.seq (.block 1 (rS [jM 19 0,jN 20 19,jA 21 2 20,jL 22 21,jM
 23 6,jX 24 1 22 23,jL 25 24,jM 26 25,oG 27 26 true (.mov (.t 5)),oG 28 26 true (.mov (.t 1)),oG 29 26 true (.idx 1 (.t 27) (.t 28)),oG 30 26 true (.load none none (.t 29)),oG 31 26 true (.mov (.t 6)),oG 32 26 true (.idx 1 (.t 30) (.t 31)),oG 33 26 true (.load none none (.t 32)),oP 34
 (.pick (.t 26) (.t 33) (.c (.bool false)))] (.cond (.t 34) (rS [jI 4 1] .ret) .skip))) (.region [jM 17 6,jD 18 .add 17 1,jM 6 18])))))) (rS [jI 4 0] .ret)))⟩
def ir195:aM:=⟨[.tmp 4],rS [oP 4 (.mov (.c .nils))] (rS [jM 10 0,jN 11 10,jA 12 2 11,jL 13 12,jK 14 1 13,oP 15 (.mksl 4 1 [.bool false] (.t 14) (.t 14)),jM 5 15] (rS [jM 16 5,jM 17 0,jN 18 17,jA 19 1 18,jL 20 19,jX 21 1 16 20,oS (.store none 1 (.t 21) (.c (.bool true)))] (rS [jM
 22 5,oP 23 (.mk 22 1 [.nils] [(0,1,.t 22)]),jM 6 23] (.seq (rS [jI 7 0] (.block 0 (.loop (.seq (rS [jM 24 7,jM 25 1,jB 26 .lss 24 25] (kE 26 0)) (.seq (.block 1 (rS [jM 29 0,jN 30 29,jA 31 2 30,jL 32 31,jK 33 1 32,oP 34 (.mksl 4 1 [.bool false] (.t 33) (.t 33)),jM 8 34] (.seq (rS [jI 9
 0] (.block 2 (.loop (.seq (rS [jM 35 9,jM 36 5,jK 37 1 36,jB 38 .lss 35 37] (kE 38 2)) (.seq (.block 3 (rS [jM 41 5,jM 42 9,jX 43 1 41 42,jL 44 43] (.cond (.t 44) (rS [jM 45 8,jM 46 0,jN 47 46,jA 48 3 47,jL 49 48,jM 50 9,jX 51 1 49 50,jL 52 51,oP 53 (.idx 1 (.t 52) (cI 0)),jL 54 53,
 jX 55 1 45 54,oS (.store none 1 (.t 55) (.c (.bool true)))] (.region [jM 56 8,jM 57 0,jN 58 57,jA 59 3 58,jL 60 59,jM 61 9,jX 62 1 60 61,jL 63 62,oP 64 (.idx 1 (.t 63) (cI 1)),jL 65 64,jX 66 1 56 65,oS (.store none 1 (.t 66) (.c (.bool true)))])) .skip))) (.region [jM 39 9,jD 40 .add
 39 1,jM 9 40])))))) (rS [jM 67 6,jM 68 8,oP 69 (.mk 22 1 [.nils] [(0,1,.t 68)]),oP 70 (.app 22 1 24 (.t 67) (.t 69)),jM 6 70] (.region [jM 71 8,jM 5 71]))))) (.region [jM 27 7,jD 28 .add 27 1,jM 7 28])))))) (rS [jM 72 6,jM 4 72] .ret)))))⟩
def ir196:aM:=⟨[.tmp 8],rS [oP 8 (.mov (.c .nils))] (rS [oP 11 (.mk 4 0 [] []),jM 9 11] (.seq (rS [jI 10 0] (.block 0 (.loop (.seq (rS [jM 12 10,jM 13 1,jK 14 1 13,jB 15 .lss 12 14] (kE 15 0)) (.seq (.block 1 (.region [jM 18 9,jM 19 1,jM 20 10,jX 21 1 19 20,jL 22 21,jM 23 22,oG 24
 23 true (.mov (.t 2)),oG 25 23 true (.mov (.t 0)),oG 26 23 true (.nilck (.t 25)),oG 27 23 true (.lea 3 (.t 26)),oG 28 23 true (.load none none (.t 27)),oG 29 23 true (.mov (.t 10)),oG 30 23 true (.idx 1 (.t 28) (.t 29)),oG 31 23 true (.load none none (.t 30)),oG 32 23 true (.mov (.t 3)),
 oG 33 23 true (.idx 1 (.t 31) (.t 32)),oG 34 23 true (.load none none (.t 33)),oG 35 23 true (.idx 1 (.t 24) (.t 34)),oG 36 23 true (.load none none (.t 35)),oP 37 (.pick (.t 23) (.t 36) (.c (.bool false))),oP 38 (.mk 4 1 [.bool false] [(0,1,.t 37)]),oP 39 (.app 4 1 1 (.t 18) (.t 38)),jM
 9 39])) (.region [jM 16 10,jD 17 .add 16 1,jM 10 17])))))) (rS [jM 40 9,jM 8 40] .ret)))⟩
def ir197:aM:=⟨[.tmp 2],rS [jF 2 false] (.seq (rS [jI 3 0] (.block 0 (.loop (.seq (rS [jM 4 3,jM 5 0,jK 6 1 5,jB 7 .lss 4 6] (kE 7 0)) (.seq (.block 1 (rS [jM 10 0,jM 11 3,jX 12 1 10 11,jL 13 12] (.cond (.t 13) (rS [jF 2 true] .ret) .skip))) (.region [jM 8 3,jD 9 .add 8 1,jM 3
 9])))))) (rS [jF 2 false] .ret))⟩
def ir198:aM:=⟨[.tmp 2],rS [jT 1 77 0,oP 2 (.mov (.c .nils))] (rS [jA 11 2 1,jL 12 11,jK 13 1 12,oP 14 (.mksl 3 8 [.int .i64 0] (.t 13) (.t 13)),jM 3 14] (.seq (rS [jA 15 2 1,jL 16 15,jK 17 1 16,jI 18 0] (.block 0 (.loop (rS [jB 19 .lss 18 17] (.seq (kE 19 0) (.seq (.block 1 (rS [jM
 20 18,jX 21 1 16 18,jL 22 21,jM 4 20,jM 5 22] (rS [jM 23 5,jJ 24 23] (.cond (.t 24) (.region [jM 25 3,jM 26 4,jX 27 1 25 26,oS (.store none 1 (.t 27) (cI (-1)))]) .skip)))) (.region [jD 28 .add 18 1,jM 18 28]))))))) (.seq (rS [jI 6 1] (.block 2 (.loop (.seq (rS [jM 29 6,jM 30 3,jK 31 1
 30,jB 32 .leq 29 31] (kE 32 2)) (.seq (.block 3 (rS [jA 35 3 1,jL 36 35,jK 37 1 36,jI 38 0] (.block 4 (.loop (rS [jB 39 .lss 38 37] (.seq (kE 39 4) (.seq (.block 5 (rS [jM 40 38,jX 41 1 36 38,jL 42 41,jM 7 40,jM 8 42] (.seq (rS [jM 43 3,jM 44 7,jX 45 1 43 44,jL 46 45,jD 47 .geq 46 0]
 (.cond (.t 47) (.exit 5) .skip)) (rS [jM 48 8,jK 49 1 48,jI 50 0] (.block 6 (.loop (rS [jB 51 .lss 50 49] (.seq (kE 51 6) (.seq (.block 7 (rS [jX 52 1 48 50,jL 53 52,jM 10 53] (rS [jM 54 3,jM 55 10,jX 56 1 54 55,jL 57 56,jM 58 6,jD 59 .sub 58 1,jB 60 .eql 57 59] (.cond (.t 60) (rS [jM 61
 3,jM 62 7,jM 63 6,jX 64 1 61 62,jW 1 64 63] (.exit 6)) .skip)))) (.region [jD 65 .add 50 1,jM 50 65])))))))))) (.region [jD 66 .add 38 1,jM 38 66])))))))) (.region [jM 33 6,jD 34 .add 33 1,jM 6 34])))))) (rS [jM 67 3,jM 2 67] .ret))))⟩
def ir201:aM:=⟨[.cell 4 (some 4),.tmp 5],rS [jT 2 25 0,jT 3 25 1,jZ 4 25,jI 5 0] (.seq (.block 0 (rS [jQ 15 2,jC 16 58 [.t 15],jJ 17 16,jM 18 17,oG 19 18 false (.load none (some 4) (.t 3)),oG 20 18 false (.call (.c (.fn 58 [])) [.t 19]),oG 21 18 false (.not (.t 20)),jP 22 18 21
 true,jM 14 22] (.cond (.t 14) (rS [jY 23,jW 4 4 23,jI 5 1] .ret) (rS [jA 25 0 2,jL 26 25,jA 27 0 3,jL 28 27,jB 29 .add 26 28,jD 30 .gtr 29 3,jM 24 30] (.cond (.t 24) (rS [jY 31,jW 4 4 31,jI 5 2] .ret) .skip))))) (rS [oP 6 (.mov (.c .nils)),oP 7 (.mov (.c .nils))] (.seq (rS [jI 8 0]
 (.block 1 (.loop (.seq (rS [jM 32 8,jA 33 0 3,jL 34 33,jB 35 .lss 32 34] (kE 35 1)) (.seq (.block 2 (.region [jM 38 6,jA 39 0 2,jL 40 39,jM 41 8,jB 42 .add 40 41,oP 43 (.mk 2 1 [.int .i64 0] [(0,1,.t 42)]),oP 44 (.app 2 1 8 (.t 38) (.t 43)),jM 6 44])) (.region [jM 36 8,jD 37 .add 36
 1,jM 8 37])))))) (.seq (rS [jI 9 0] (.block 3 (.loop (.seq (rS [jM 45 9,jA 46 0 2,jL 47 46,jB 48 .lss 45 47] (kE 48 3)) (.seq (.block 4 (.region [jM 51 7,oP 52 (.mk 2 1 [.int .i64 0] [(0,1,cI 0)]),oP 53 (.app 2 1 8 (.t 51) (.t 52)),jM 7 53])) (.region [jM 49 9,jD 50 .add 49 1,jM 9
 50])))))) (rS [jQ 55 2,jM 56 6,jC 57 234 [.t 55,.t 56],jM 54 57,jE 58 0 54,jE 59 1 54,jZ 10 25,jW 4 10 58,jM 11 59] (rS [jQ 61 3,jM 62 7,jC 63 234 [.t 61,.t 62],jM 60 63,jE 64 0 60,jE 65 1 60,jZ 12 25,jW 4 12 64,jM 13 65] (rS [jQ 66 10,jM 67 11,jQ 68 12,jM 69 13,jC 70 88 [.t
 66,.t 67,.t 68,.t 69],jE 71 0 70,jE 72 1 70,jW 4 4 71,jM 5 72] .ret)))))))⟩
def ir202:aM:=⟨[.tmp 6],rS [jI 6 0] (.seq (rS [jI 7 0] (.block 0 (.loop (.seq (rS [jM 9 7,jM 10 0,jB 11 .lss 9 10] (kE 11 0)) (.seq (.block 1 (rS [jM 14 2,jM 15 7,jC 16 151 [.t 14,.t 15],jD 17 .eql 16 2,jM 8 17] (.seq (rS [jM 18 8,jJ 19 18,jM 20 19,oG 21 20 true (.mov (.t 1)),oG
 22 20 true (.mov (.t 7)),oG 23 20 true (.conv .u64 (.t 22)),oG 24 20 true (.bin .shr (.t 21) (.t 23)),oG 25 20 true (.bin .and (.t 24) (cI 1)),oG 26 20 true (.bin .eql (.t 25) (cI 1)),oP 27 (.pick (.t 20) (.t 26) (.c (.bool false)))] (.cond (.t 27) (rS [jI 6 (-1)] .ret) .skip)) (rS [jM 28 8]
 (.cond (.t 28) (.region [jM 29 1,jM 30 7,oP 31 (.conv .u64 (.t 30)),oP 32 (.bin .shl (cI 1) (.t 31)),jB 33 .or 29 32,jM 1 33]) .skip))))) (.region [jM 12 7,jD 13 .add 12 1,jM 7 13])))))) (rS [jM 34 1,jM 6 34] .ret))⟩
def ir203:aM:=⟨[.tmp 8],rS [jF 8 false] (.seq (rS [jI 9 0] (.block 0 (.loop (.seq (rS [jM 10 9,jM 11 0,jN 12 11,jA 13 3 12,jL 14 13,jM 15 2,jX 16 1 14 15,jL 17 16,jK 18 1 17,jB 19 .lss 10 18] (kE 19 0)) (.seq (.block 1 (rS [jM 22 1,jM 23 0,jN 24 23,jA 25 3 24,jL 26 25,jM 27 2,
 jX 28 1 26 27,jL 29 28,jM 30 9,jX 31 1 29 30,jL 32 31,jX 33 1 22 32,jL 34 33,jM 35 1,jM 36 0,jN 37 36,jA 38 3 37,jL 39 38,jM 40 3,jX 41 1 39 40,jL 42 41,jM 43 9,jX 44 1 42 43,jL 45 44,jX 46 1 35 45,jL 47 46,jB 48 .neq 34 47] (.cond (.t 48) (rS [jF 8 false] .ret) .skip)))
 (.region [jM 20 9,jD 21 .add 20 1,jM 9 21])))))) (rS [jF 8 true] .ret))⟩
def ir204:aM:=⟨[.tmp 6],rS [jI 6 0] (rS [jI 7 0] (rS [jI 8 0] (.seq (rS [jI 9 0] (.block 0 (.loop (.seq (rS [jM 10 9,jM 11 1,jB 12 .lss 10 11] (kE 12 0)) (.seq (.block 1 (rS [jM 15 9,jM 16 2,jB 17 .neq 15 16] (.cond (.t 17) (rS [jM 18 7,jM 19 0,jM 20 9,jC 21 151 [.t 19,.t 20],jM 22
 8,jC 23 150 [.t 22],jB 24 .mul 21 23,jB 25 .add 18 24,jM 7 25] (.region [jM 26 8,jD 27 .add 26 1,jM 8 27])) .skip))) (.region [jM 13 9,jD 14 .add 13 1,jM 9 14])))))) (rS [jM 28 7,jM 6 28] .ret))))⟩
def ir205:aM:=⟨[.cell 6 (some 4)],rS [jZ 6 25] (rS [jM 13 0,jM 14 1,jC 15 235 [.t 13,.t 14],jZ 7 25,jW 4 7 15] (rS [jM 16 1,jN 17 16,jA 18 2 17,jL 19 18,jK 20 1 19,jM 8 20] (.seq (rS [jI 9 0] (.block 0 (.loop (.seq (rS [jM 21 9,jM 22 0,jN 23 22,jA 24 2 23,jL 25 24,jK 26 1 25,
 jB 27 .lss 21 26] (kE 27 0)) (.seq (.block 1 (rS [jI 10 0] (.block 2 (.loop (.seq (rS [jM 30 10,jM 31 8,jB 32 .lss 30 31] (kE 32 2)) (.seq (.block 3 (rS [jM 35 0,jN 36 35,jA 37 2 36,jL 38 37,jM 39 9,jX 40 1 38 39,jL 41 40,jM 11 41] (rS [jM 42 1,jN 43 42,jA 44 2 43,jL 45 44,jM 46 10,
 jX 47 1 45 46,jL 48 47,jM 12 48] (rS [jM 49 2] (.block 4 (rS [jD 64 .eql 49 1,jM 63 64] (.cond (.t 63) (.region [jA 65 2 7,jL 66 65,jM 67 9,jM 68 8,jB 69 .mul 67 68,jM 70 10,jB 71 .add 69 70,jM 72 11,jM 73 72,oG 74 73 true (.mov (.t 12)),oP 75 (.pick (.t 73) (.t 74) (.c (.bool
 false))),jX 76 1 66 71,jW 1 76 75]) (rS [jD 78 .eql 49 2,jM 77 78] (.cond (.t 77) (.region [jA 79 2 7,jL 80 79,jM 81 9,jM 82 8,jB 83 .mul 81 82,jM 84 10,jB 85 .add 83 84,jM 86 11,jM 87 86,oG 88 87 false (.mov (.t 12)),jP 89 87 88 true,jX 90 1 80 85,jW 1 90 89]) (.region [jA 50 2 7,
 jL 51 50,jM 52 9,jM 53 8,jB 54 .mul 52 53,jM 55 10,jB 56 .add 54 55,jM 57 11,jM 58 57,oG 59 58 true (.mov (.t 12)),oG 60 58 true (.not (.t 59)),oP 61 (.pick (.t 58) (.t 60) (.c (.bool false))),jX 62 1 51 56,jW 1 62 61])))))))))) (.region [jM 33 10,jD 34 .add 33 1,jM 10 34])))))))
 (.region [jM 28 9,jD 29 .add 28 1,jM 9 29])))))) (rS [jQ 91 7,jW 4 6 91] .ret))))⟩
def ir211:aM:=⟨[.tmp 4],rS [jF 4 false] (rS [jA 5 2 1,jL 6 5,jL 7 2,jM 8 0,jX 9 1 7 8,jL 10 9,jX 11 1 6 10,jL 12 11,jM 4 12] .ret)⟩
def ir212:aM:=⟨[.tmp 7],rS [jI 7 0] (rS [jL 8 2,jA 9 3 3,jL 10 9,jL 11 4,jM 12 0,jX 13 1 11 12,jL 14 13,jX 15 1 10 14,jL 16 15,jM 17 1,jX 18 1 16 17,jL 19 18,jX 20 1 8 19,jL 21 20,jM 7 21] .ret)⟩
def ir214:aM:=⟨[.tmp 2],rS [oP 2 (.mov (.c .nils))] (.seq (rS [jM 3 0,oP 4 (.isnil false (.t 3))] (.cond (.t 4) (rS [oP 2 (.mov (.c .nils))] .ret) .skip)) (rS [oP 5 (.mk 3 0 [] []),jM 6 0,oP 7 (.app 3 1 8 (.t 5) (.t 6)),jM 2 7] .ret))⟩
def ir215:aM:=⟨[.tmp 2],rS [oP 2 (.mov (.c .nils))] (rS [oP 3 (.mk 2 0 [] []),jM 4 0,oP 5 (.app 2 1 8 (.t 3) (.t 4)),jM 2 5] .ret)⟩
def ir216:aM:=⟨[.tmp 10],rS [oP 10 (.mov (.c .nils))] (rS [jM 17 0,jN 18 17,jA 19 2 18,jL 20 19,jK 21 1 20,oP 22 (.mksl 4 1 [.bool false] (.t 21) (.t 21)),jM 11 22] (.seq (rS [jI 12 0] (.block 0 (.loop (.seq (rS [jM 23 12,jD 24 .lss 23 3] (kE 24 0)) (.seq (.block 1 (.seq (rS [jM 27
 12,jD 28 .eql 27 2,jM 29 28,oG 30 29 true (.mov (.t 4)),oG 31 29 true (.not (.t 30)),oP 32 (.pick (.t 29) (.t 31) (.c (.bool false)))] (.cond (.t 32) (.exit 1) .skip)) (rS [jM 33 2,jM 34 0,jN 35 34,jA 36 0 35,jL 37 36,jM 38 3,jM 39 12,jC 40 242 [.t 33,.t 37,.t 38,.t 39],jM 13 40]
 (rS [jI 14 0] (.block 2 (.loop (.seq (rS [jM 41 14,jM 42 1,jK 43 1 42,jB 44 .lss 41 43] (kE 44 2)) (.seq (.block 3 (.region [jM 47 11,jM 48 0,jN 49 48,jA 50 3 49,jL 51 50,jM 52 1,jM 53 14,jX 54 1 52 53,jL 55 54,jX 56 1 51 55,jL 57 56,jM 58 13,jX 59 1 57 58,jL 60 59,jX 61 1 47 60,
 oS (.store none 1 (.t 61) (.c (.bool true)))])) (.region [jM 45 14,jD 46 .add 45 1,jM 14 46]))))))))) (.region [jM 25 12,jD 26 .add 25 1,jM 12 26])))))) (rS [oP 62 (.mk 2 0 [] []),jM 15 62] (.seq (rS [jI 16 0] (.block 4 (.loop (.seq (rS [jM 63 16,jM 64 11,jK 65 1 64,jB 66 .lss 63 65] (kE
 66 4)) (.seq (.block 5 (rS [jM 69 11,jM 70 16,jX 71 1 69 70,jL 72 71] (.cond (.t 72) (.region [jM 73 15,jM 74 16,oP 75 (.mk 2 1 [.int .i64 0] [(0,1,.t 74)]),oP 76 (.app 2 1 8 (.t 73) (.t 75)),jM 15 76]) .skip))) (.region [jM 67 16,jD 68 .add 67 1,jM 16 68])))))) (rS [jM 77 15,jM 10 77]
 .ret)))))⟩
def ir217:aM:=⟨[.tmp 6],rS [jF 6 false] (rS [jM 14 0,jN 15 14,jA 16 2 15,jL 17 16,jK 18 1 17,oP 19 (.mksl 4 1 [.bool false] (.t 18) (.t 18)),jM 7 19] (rS [oP 20 (.mk 2 0 [] []),jM 8 20] (.seq (rS [jI 9 0] (.block 0 (.loop (.seq (rS [jM 21 9,jM 22 1,jK 23 1 22,jB 24 .lss 21 23] (kE
 24 0)) (.seq (.block 1 (rS [jM 27 7,jM 28 1,jM 29 9,jX 30 1 28 29,jL 31 30,jX 32 1 27 31,oS (.store none 1 (.t 32) (.c (.bool true)))] (.region [jM 33 8,jM 34 1,jM 35 9,jX 36 1 34 35,jL 37 36,oP 38 (.mk 2 1 [.int .i64 0] [(0,1,.t 37)]),oP 39 (.app 2 1 8 (.t 33) (.t 38)),jM 8 39])))
 (.region [jM 25 9,jD 26 .add 25 1,jM 9 26])))))) (rS [jM 40 0,jN 41 40,jA 42 0 41,jL 43 42,jD 44 .sub 43 1,jC 45 100 [.t 44],jM 10 45] (.seq (rS [jI 11 0] (.block 2 (.loop (.seq (rS [jM 46 11,jM 47 8,jK 48 1 47,jB 49 .lss 46 48] (kE 49 2)) (.seq (.block 3 (.seq (rS [jM 52 0,jN 53 52,
 jA 54 2 53,jL 55 54,jM 56 8,jM 57 11,jX 58 1 56 57,jL 59 58,jX 60 1 55 59,jL 61 60] (.cond (.t 61) (rS [jF 6 true] .ret) .skip)) (rS [jI 12 0] (.block 4 (.loop (.seq (rS [jM 62 12,jD 63 .lss 62 2] (kE 63 4)) (.seq (.block 5 (rS [jM 66 0,jN 67 66,jA 68 3 67,oP 69 (.load (some 25) none
 (.t 68)),jM 70 8,jM 71 11,jX 72 1 70 71,oP 73 (.load (some 2) none (.t 72)),jX 74 1 69 73,oP 75 (.load (some 36) none (.t 74)),jM 76 10,jM 77 0,jN 78 77,jA 79 0 78,jL 80 79,jM 81 2,jM 82 12,⟨some 83,.call (.c (.fn 242 [])) [.t 76,.t 80,.t 81,.t 82],none,[25,2,36]⟩,jX 84 1 75
 83,jL 85 84,jM 13 85] (rS [jM 86 7,jM 87 13,jX 88 1 86 87,jL 89 88,jJ 90 89] (.cond (.t 90) (rS [jM 91 7,jM 92 13,jX 93 1 91 92,oS (.store none 1 (.t 93) (.c (.bool true)))] (.region [jM 94 8,jM 95 13,oP 96 (.mk 2 1 [.int .i64 0] [(0,1,.t 95)]),oP 97 (.app 2 1 8 (.t 94) (.t 96)),jM
 8 97])) .skip)))) (.region [jM 64 12,jD 65 .add 64 1,jM 12 65])))))))) (.region [jM 50 11,jD 51 .add 50 1,jM 11 51])))))) (rS [jF 6 false] .ret))))))⟩
def ir218:aM:=⟨[.tmp 4],rS [jT 2 25 0,jT 3 25 1,jI 4 0] (.seq (.block 0 (rS [jQ 6 2,jC 7 58 [.t 6],jJ 8 7,jM 9 8,oG 10 9 false (.load none (some 4) (.t 3)),oG 11 9 false (.call (.c (.fn 58 [])) [.t 10]),oG 12 9 false (.not (.t 11)),jP 13 9 12 true,jM 5 13] (.cond (.t 5) (rS [jI 4
 1] .ret) (rS [jA 15 0 2,jL 16 15,jA 17 0 3,jL 18 17,jB 19 .neq 16 18,jM 14 19] (.cond (.t 14) (rS [jI 4 2] .ret) .skip))))) (rS [jI 4 0] .ret))⟩
def ir219:aM:=⟨[.cell 6 (some 4)],rS [jT 3 77 0,jT 4 77 1,jT 5 165 2,jZ 6 77] (rS [jA 10 0 3,jL 11 10,jA 12 1 3,jL 13 12,jA 14 1 4,jL 15 14,oP 16 (.build [.int .i64 0,.int .i64 0] [(0,1,.t 13),(1,1,.t 15)]),oP 17 (.mkfn 244 [.t 5,.t 3,.t 4]),oP 18 (.mkfn 245 [.t 3,.t 4]),
 jC 19 243 [.t 11,.t 16,cI 0,.t 17,.t 18],jM 9 19,jE 20 0 9,jE 21 1 9,jZ 7 77,jW 4 7 20,jM 8 21] (rS [jQ 22 7,jW 4 6 22] .ret))⟩
def ir220:aM:=⟨[.tmp 4],rS [jF 4 false] (rS [jM 5 0,jM 6 5,oG 7 6 true (.mov (.t 1)),oG 8 6 true (.not (.t 7)),oP 9 (.pick (.t 6) (.t 8) (.c (.bool false))),jM 4 9] .ret)⟩
def ir221:aM:=⟨[.tmp 4],rS [jI 4 0] (.seq (rS [jM 6 0,jK 7 1 6,jI 8 0] (.block 0 (.loop (rS [jB 9 .lss 8 7] (.seq (kE 9 0) (.seq (.block 1 (rS [jM 10 8,jM 5 10] (rS [jM 11 1,jM 12 0,jM 13 5,jX 14 1 12 13,jL 15 14,oP 16 (.beq false (.t 11) (.t 15))] (.cond (.t 16) (rS [jM 17 5,jM 4
 17] .ret) .skip)))) (.region [jD 18 .add 8 1,jM 8 18]))))))) (rS [jI 4 (-1)] .ret))⟩
def ir222:aM:=⟨[.tmp 4],rS [jI 4 0] (.seq (rS [jM 5 0,jM 6 1,jB 7 .lss 5 6] (.cond (.t 7) (rS [jM 8 0,jM 4 8] .ret) .skip)) (rS [jM 9 1,jM 4 9] .ret))⟩
def ir234:aM:=⟨[.cell 4 (some 4),.tmp 5],rS [jT 2 25 0,jZ 4 25,jI 5 0] (.seq (rS [jM 10 1,jK 11 1 10,jI 12 0] (.block 0 (.loop (rS [jB 13 .lss 12 11] (.seq (kE 13 0) (.seq (.block 1 (rS [jX 14 1 10 12,jL 15 14,jM 7 15] (rS [jQ 17 2,jM 18 7,jC 19 126 [.t 17,.t 18],jM 16 19,jE 20 0
 16,jE 21 1 16,jZ 8 25,jW 4 8 20,jM 9 21] (.seq (rS [jM 22 9,jD 23 .neq 22 0] (.cond (.t 23) (rS [jY 24,jM 25 9,jW 4 4 24,jM 5 25] .ret) .skip)) (.region [jQ 26 8,jW 4 2 26]))))) (.region [jD 27 .add 12 1,jM 12 27]))))))) (rS [jQ 28 2,jW 4 4 28,jI 5 0] .ret))⟩
def ir235:aM:=⟨[.cell 4 (some 4)],rS [jZ 4 25] (rS [jM 11 1,jN 12 11,jA 13 2 12,jL 14 13,jK 15 1 14,jM 5 15] (rS [jM 16 0,jN 17 16,jA 18 0 17,jL 19 18,jM 20 0,jN 21 20,jA 22 1 21,jL 23 22,jM 24 5,jB 25 .mul 23 24,jM 26 1,jN 27 26,jA 28 1 27,jL 29 28,jB 30 .add 25 29,oP 31
 (.build [.int .i64 0,.int .i64 0,.nils,.nils] [(0,1,.t 19),(1,1,.t 30)]),jZ 6 25,jW 4 6 31] (.seq (rS [jI 7 0] (.block 0 (.loop (.seq (rS [jM 32 7,jM 33 0,jN 34 33,jA 35 2 34,jL 36 35,jK 37 1 36,jB 38 .lss 32 37] (kE 38 0)) (.seq (.block 1 (rS [jI 8 0] (.block 2 (.loop (.seq (rS
 [jM 41 8,jM 42 1,jN 43 42,jA 44 2 43,jL 45 44,jK 46 1 45,jB 47 .lss 41 46] (kE 47 2)) (.seq (.block 3 (rS [oP 50 (.mk 2 0 [] []),jM 9 50] (.seq (rS [jI 10 0] (.block 4 (.loop (.seq (rS [jM 51 10,jM 52 0,jN 53 52,jA 54 3 53,jL 55 54,jM 56 7,jX 57 1 55 56,jL 58 57,jK 59 1 58,jB 60
 .lss 51 59] (kE 60 4)) (.seq (.block 5 (.region [jM 63 9,jM 64 0,jN 65 64,jA 66 3 65,jL 67 66,jM 68 7,jX 69 1 67 68,jL 70 69,jM 71 10,jX 72 1 70 71,jL 73 72,jM 74 5,jB 75 .mul 73 74,jM 76 1,jN 77 76,jA 78 3 77,jL 79 78,jM 80 8,jX 81 1 79 80,jL 82 81,jM 83 10,jX 84 1 82 83,jL
 85 84,jB 86 .add 75 85,oP 87 (.mk 2 1 [.int .i64 0] [(0,1,.t 86)]),oP 88 (.app 2 1 8 (.t 63) (.t 87)),jM 9 88])) (.region [jM 61 10,jD 62 .add 61 1,jM 10 62])))))) (rS [jA 89 2 6,jL 90 89,jM 91 0,jN 92 91,jA 93 2 92,jL 94 93,jM 95 7,jX 96 1 94 95,jL 97 96,jM 98 1,jN 99 98,jA 100
 2 99,jL 101 100,jM 102 8,jX 103 1 101 102,jL 104 103,oP 105 (.beq true (.t 97) (.t 104)),oP 106 (.mk 4 1 [.bool false] [(0,1,.t 105)]),oP 107 (.app 4 1 1 (.t 90) (.t 106)),jA 108 2 6,jW 1 108 107] (.region [jA 109 3 6,jL 110 109,jM 111 9,oP 112 (.mk 36 1 [.nils] [(0,1,.t 111)]),oP
 113 (.app 36 1 24 (.t 110) (.t 112)),jA 114 3 6,jW 1 114 113]))))) (.region [jM 48 8,jD 49 .add 48 1,jM 8 49]))))))) (.region [jM 39 7,jD 40 .add 39 1,jM 7 40])))))) (rS [jQ 115 6,jW 4 4 115] .ret))))⟩
def ir242:aM:=⟨[.tmp 8],rS [jI 8 0] (rS [jM 12 3,jM 13 2,jC 14 150 [.t 13],jB 15 .mul 12 14,jM 9 15] (rS [jI 10 0] (.seq (rS [jI 11 0] (.block 0 (.loop (.seq (rS [jM 16 11,jM 17 1,jB 18 .lss 16 17] (kE 18 0)) (.seq (.block 1 (rS [jM 21 11,jM 22 2,jB 23 .neq 21 22] (.cond (.t 23) (rS
 [jM 24 9,jM 25 0,jM 26 10,jC 27 151 [.t 25,.t 26],jM 28 11,jC 29 150 [.t 28],jB 30 .mul 27 29,jB 31 .add 24 30,jM 9 31] (.region [jM 32 10,jD 33 .add 32 1,jM 10 33])) .skip))) (.region [jM 19 11,jD 20 .add 19 1,jM 11 20])))))) (rS [jM 34 9,jM 8 34] .ret))))⟩
def ir243:aM:=⟨[.cell 10 (some 4),.tmp 11],rS [jT 6 212 1,jZ 10 77,jF 11 false] (rS [jM 22 0,oP 23 (.build [.int .i64 0,.int .i64 0,.nils,.nils] [(0,1,.t 22)]),jZ 12 77,jW 4 12 23] (rS [oP 24 .mkmap,oP 25 (.load none (some 2) (.t 6)),oS (.mset 5 (.t 24) (.t 25) (cI 0)),jM 26
 24,jM 13 26] (rS [oP 27 (.load none (some 2) (.t 6)),oP 28 (.mk 212 1 [.int .i64 0,.int .i64 0] [(0,2,.t 27)]),jM 14 28] (.seq (rS [jI 15 0] (.block 0 (.loop (.seq (rS [jM 29 15,jM 30 14,jK 31 1 30,jB 32 .lss 29 31] (kE 32 0)) (.seq (.block 1 (rS [jM 35 14,jM 36 15,jX 37 2 35 36,oP 38
 (.load none (some 2) (.t 37)),oP 16 (.new 212 [.int .i64 0,.int .i64 0]),jW 2 16 38] (rS [oP 17 (.mov (.c .nils))] (.seq (rS [jI 18 0] (.block 2 (.loop (.seq (rS [jM 39 18,jM 40 0,jC 41 94 [.t 40],jB 42 .lss 39 41] (kE 42 2)) (.seq (.block 3 (rS [jM 45 4,oP 46 (.load none (some 2) (.t 16)),
 jM 47 18,oP 48 (.call (.t 45) [.t 46,.t 47]),oP 19 (.new 212 [.int .i64 0,.int .i64 0]),jW 2 19 48] (rS [jM 50 13,oP 51 (.load none (some 2) (.t 19)),oP 52 (.look 5 true (.int .i64 0) (.t 50) (.t 51)),jM 49 52,jE 53 0 49,jE 54 1 49,jM 20 53,jM 21 54] (.seq (rS [jM 55 21,jJ 56 55]
 (.cond (.t 56) (rS [jM 57 14,jK 58 1 57,jM 20 58] (rS [jM 59 13,oP 60 (.load none (some 2) (.t 19)),jM 61 20,oS (.mset 5 (.t 59) (.t 60) (.t 61))] (rS [jM 62 14,oP 63 (.load none (some 2) (.t 19)),oP 64 (.mk 212 1 [.int .i64 0,.int .i64 0] [(0,2,.t 63)]),oP 65 (.app 212 2 16 (.t 62) (.t
 64)),jM 14 65] (rS [jM 66 2,jD 67 .gtr 66 0,jM 68 67,oG 69 68 true (.mov (.t 14)),oG 70 68 true (.len 1 (.t 69)),oG 71 68 true (.mov (.t 2)),oG 72 68 true (.bin .gtr (.t 70) (.t 71)),oP 73 (.pick (.t 68) (.t 72) (.c (.bool false)))] (.cond (.t 73) (rS [jY 74,jW 4 10 74,jF 11 false] .ret)
 .skip))))) .skip)) (.region [jM 75 17,jM 76 20,oP 77 (.mk 3 1 [.int .i64 0] [(0,1,.t 76)]),oP 78 (.app 3 1 8 (.t 75) (.t 77)),jM 17 78]))))) (.region [jM 43 18,jD 44 .add 43 1,jM 18 44])))))) (rS [jA 79 2 12,oP 80 (.load (some 77) none (.t 79)),jM 81 3,oP 82 (.load none (some 2) (.t
 16)),⟨some 83,.call (.t 81) [.t 82],none,[77]⟩,oP 84 (.mk 4 1 [.bool false] [(0,1,.t 83)]),oP 85 (.app 4 1 1 (.t 80) (.t 84)),jA 86 2 12,jW 1 86 85] (.region [jA 87 3 12,jL 88 87,jM 89 17,oP 90 (.mk 80 1 [.nils] [(0,1,.t 89)]),oP 91 (.app 80 1 24 (.t 88) (.t 90)),jA 92 3 12,jW 1
 92 91])))))) (.region [jM 33 15,jD 34 .add 33 1,jM 15 34])))))) (rS [jQ 93 12,jW 4 10 93,jF 11 true] .ret)))))⟩
def ir244:aM:=⟨[.tmp 5],rS [jT 4 212 0,jF 5 false] (rS [jL 6 1,jA 7 2 2,jL 8 7,oP 9 (.idxa 2 1 (.t 4) (cI 0)),jL 10 9,jX 11 1 8 10,jL 12 11,jA 13 2 3,jL 14 13,oP 15 (.idxa 2 1 (.t 4) (cI 1)),jL 16 15,jX 17 1 14 16,jL 18 17,oP 19 (.call (.t 6) [.t 12,.t 18]),jM 5 19] .ret)⟩
def ir245:aM:=⟨[.cell 6 (some 2)],rS [jT 4 212 0,oP 6 (.new 212 [.int .i64 0,.int .i64 0])] (rS [jA 7 3 2,jL 8 7,oP 9 (.idxa 2 1 (.t 4) (cI 0)),jL 10 9,jX 11 1 8 10,jL 12 11,jM 13 1,jX 14 1 12 13,jL 15 14,jA 16 3 3,jL 17 16,oP 18 (.idxa 2 1 (.t 4) (cI 1)),jL 19 18,jX 20 1 17
 19,jL 21 20,jM 22 1,jX 23 1 21 22,jL 24 23,oP 25 (.build [.int .i64 0,.int .i64 0] [(0,1,.t 15),(1,1,.t 24)]),jW 2 6 25] .ret)⟩
def fnA:Nat→Option aM
 | 9=>some ir9
 | 18=>some ir18
 | 25=>some ir25
 | 27=>some ir27
 | 29=>some ir29
 | 31=>some ir31
 | 38=>some ir38
 | 39=>some ir39
 | 41=>some ir41
 | 45=>some ir45
 | 46=>some ir46
 | 47=>some ir47
 | 48=>some ir48
 | 49=>some ir49
 | 50=>some ir50
 | 51=>some ir51
 | 52=>some ir52
 | 53=>some ir53
 | 55=>some ir55
 | 56=>some ir56
 | 58=>some ir58
 | 60=>some ir60
 | _=>none
def fnB:Nat→Option aM
 | 65=>some ir65
 | 66=>some ir66
 | 67=>some ir67
 | 68=>some ir68
 | 69=>some ir69
 | 70=>some ir70
 | 71=>some ir71
 | 72=>some ir72
 | 73=>some ir73
 | 74=>some ir74
 | 75=>some ir75
 | 76=>some ir76
 | 77=>some ir77
 | 78=>some ir78
 | 79=>some ir79
 | 80=>some ir80
 | 85=>some ir85
 | 87=>some ir87
 | 88=>some ir88
 | 90=>some ir90
 | 91=>some ir91
 | 94=>some ir94
 | 95=>some ir95
 | 96=>some ir96
 | 97=>some ir97
 | 98=>some ir98
 | 99=>some ir99
 | 100=>some ir100
 | 101=>some ir101
 | 102=>some ir102
 | 103=>some ir103
 | 104=>some ir104
 | 105=>some ir105
 | 106=>some ir106
 | 107=>some ir107
 | 110=>some ir110
 | 111=>some ir111
 | 112=>some ir112
 | 113=>some ir113
 | 114=>some ir114
 | 115=>some ir115
 | 116=>some ir116
 | 117=>some ir117
 | 118=>some ir118
 | 119=>some ir119
 | 120=>some ir120
 | 121=>some ir121
 | 122=>some ir122
 | _=>none
def fnC:Nat→Option aM
 | 123=>some ir123
 | 124=>some ir124
 | 125=>some ir125
 | 126=>some ir126
 | 127=>some ir127
 | 128=>some ir128
 | 129=>some ir129
 | 130=>some ir130
 | 133=>some ir133
 | 134=>some ir134
 | 135=>some ir135
 | 136=>some ir136
 | 137=>some ir137
 | 138=>some ir138
 | 139=>some ir139
 | 140=>some ir140
 | 141=>some ir141
 | 142=>some ir142
 | 146=>some ir146
 | 147=>some ir147
 | 148=>some ir148
 | 149=>some ir149
 | 150=>some ir150
 | 151=>some ir151
 | 152=>some ir152
 | 153=>some ir153
 | 154=>some ir154
 | 155=>some ir155
 | 156=>some ir156
 | 164=>some ir164
 | 165=>some ir165
 | 166=>some ir166
 | 167=>some ir167
 | 168=>some ir168
 | 169=>some ir169
 | 170=>some ir170
 | 171=>some ir171
 | 172=>some ir172
 | 173=>some ir173
 | 174=>some ir174
 | 175=>some ir175
 | 176=>some ir176
 | 177=>some ir177
 | 178=>some ir178
 | 179=>some ir179
 | 180=>some ir180
 | 181=>some ir181
 | 182=>some ir182
 | 183=>some ir183
 | 184=>some ir184
 | 186=>some ir186
 | _=>none
def fnD:Nat→Option aM
 | 187=>some ir187
 | 188=>some ir188
 | 189=>some ir189
 | 190=>some ir190
 | 191=>some ir191
 | 192=>some ir192
 | 193=>some ir193
 | 194=>some ir194
 | 195=>some ir195
 | 196=>some ir196
 | 197=>some ir197
 | 198=>some ir198
 | 201=>some ir201
 | 202=>some ir202
 | 203=>some ir203
 | 204=>some ir204
 | 205=>some ir205
 | 211=>some ir211
 | 212=>some ir212
 | 214=>some ir214
 | 215=>some ir215
 | 216=>some ir216
 | 217=>some ir217
 | 218=>some ir218
 | 219=>some ir219
 | 220=>some ir220
 | 221=>some ir221
 | 222=>some ir222
 | 234=>some ir234
 | 235=>some ir235
 | 242=>some ir242
 | 243=>some ir243
 | 244=>some ir244
 | 245=>some ir245
 | _=>none
def fnOf(f:Nat):Option aM:=match fnA f with|some x=>some x|none=>match fnB f with|some x=>some x|none=>match fnC f with|some x=>some x|none=>fnD f
def gam(aA:Nat):Ctx:=⟨aA,fnOf,orC (orC (itoaB 210) (orC (sortB aA 144 3) (orC (compB aA 145 3) (cntB 143 4 80 3)))) (orC (delB aA 185 3) (insB aA 213 3))⟩
theorem linkedA:Linked Tryz.prog sq ⟨0,fnA,fun _ _ _ _ _=>False⟩:=by
 intro f bfn h
 simp only[fnA] at h
 split at h
 ·cases h;exact⟨_,Tryz.func9,by kernel_rfl,by kernel_rfl⟩
 ·cases h;exact⟨_,Tryz.func18,by kernel_rfl,by kernel_rfl⟩
 ·cases h;exact⟨_,Tryz.func25,by kernel_rfl,by kernel_rfl⟩
 ·cases h;exact⟨_,Tryz.func27,by kernel_rfl,by kernel_rfl⟩
 ·cases h;exact⟨_,Tryz.func29,by kernel_rfl,by kernel_rfl⟩
 ·cases h;exact⟨_,Tryz.func31,by kernel_rfl,by kernel_rfl⟩
 ·cases h;exact⟨_,Tryz.func38,by kernel_rfl,by kernel_rfl⟩
 ·cases h;exact⟨_,Tryz.func39,by kernel_rfl,by kernel_rfl⟩
 ·cases h;exact⟨_,Tryz.func41,by kernel_rfl,by kernel_rfl⟩
 ·cases h;exact⟨_,Tryz.func45,by kernel_rfl,by kernel_rfl⟩
 ·cases h;exact⟨_,Tryz.func46,by kernel_rfl,by kernel_rfl⟩
 ·cases h;exact⟨_,Tryz.func47,by kernel_rfl,by kernel_rfl⟩
 ·cases h;exact⟨_,Tryz.func48,by kernel_rfl,by kernel_rfl⟩
 ·cases h;exact⟨_,Tryz.func49,by kernel_rfl,by kernel_rfl⟩
 ·cases h;exact⟨_,Tryz.func50,by kernel_rfl,by kernel_rfl⟩
 ·cases h;exact⟨_,Tryz.func51,by kernel_rfl,by kernel_rfl⟩
 ·cases h;exact⟨_,Tryz.func52,by kernel_rfl,by kernel_rfl⟩
 ·cases h;exact⟨_,Tryz.func53,by kernel_rfl,by kernel_rfl⟩
 ·cases h;exact⟨_,Tryz.func55,by kernel_rfl,by kernel_rfl⟩
 ·cases h;exact⟨_,Tryz.func56,by kernel_rfl,by kernel_rfl⟩
 ·cases h;exact⟨_,Tryz.func58,by kernel_rfl,by kernel_rfl⟩
 ·cases h;exact⟨_,Tryz.func60,by kernel_rfl,by kernel_rfl⟩
 ·cases h
theorem linkedB:Linked Tryz.prog sq ⟨0,fnB,fun _ _ _ _ _=>False⟩:=by
 intro f bfn h
 simp only[fnB] at h
 split at h
 ·cases h;exact⟨_,Tryz.func65,by kernel_rfl,by kernel_rfl⟩
 ·cases h;exact⟨_,Tryz.func66,by kernel_rfl,by kernel_rfl⟩
 ·cases h;exact⟨_,Tryz.func67,by kernel_rfl,by kernel_rfl⟩
 ·cases h;exact⟨_,Tryz.func68,by kernel_rfl,by kernel_rfl⟩
 ·cases h;exact⟨_,Tryz.func69,by kernel_rfl,by kernel_rfl⟩
 ·cases h;exact⟨_,Tryz.func70,by kernel_rfl,by kernel_rfl⟩
 ·cases h;exact⟨_,Tryz.func71,by kernel_rfl,by kernel_rfl⟩
 ·cases h;exact⟨_,Tryz.func72,by kernel_rfl,by kernel_rfl⟩
 ·cases h;exact⟨_,Tryz.func73,by kernel_rfl,by kernel_rfl⟩
 ·cases h;exact⟨_,Tryz.func74,by kernel_rfl,by kernel_rfl⟩
 ·cases h;exact⟨_,Tryz.func75,by kernel_rfl,by kernel_rfl⟩
 ·cases h;exact⟨_,Tryz.func76,by kernel_rfl,by kernel_rfl⟩
 ·cases h;exact⟨_,Tryz.func77,by kernel_rfl,by kernel_rfl⟩
 ·cases h;exact⟨_,Tryz.func78,by kernel_rfl,by kernel_rfl⟩
 ·cases h;exact⟨_,Tryz.func79,by kernel_rfl,by kernel_rfl⟩
 ·cases h;exact⟨_,Tryz.func80,by kernel_rfl,by kernel_rfl⟩
 ·cases h;exact⟨_,Tryz.func85,by kernel_rfl,by kernel_rfl⟩
 ·cases h;exact⟨_,Tryz.func87,by kernel_rfl,by kernel_rfl⟩
 ·cases h;exact⟨_,Tryz.func88,by kernel_rfl,by kernel_rfl⟩
 ·cases h;exact⟨_,Tryz.func90,by kernel_rfl,by kernel_rfl⟩
 ·cases h;exact⟨_,Tryz.func91,by kernel_rfl,by kernel_rfl⟩
 ·cases h;exact⟨_,Tryz.func94,by kernel_rfl,by kernel_rfl⟩
 ·cases h;exact⟨_,Tryz.func95,by kernel_rfl,by kernel_rfl⟩
 ·cases h;exact⟨_,Tryz.func96,by kernel_rfl,by kernel_rfl⟩
 ·cases h;exact⟨_,Tryz.func97,by kernel_rfl,by kernel_rfl⟩
 ·cases h;exact⟨_,Tryz.func98,by kernel_rfl,by kernel_rfl⟩
 ·cases h;exact⟨_,Tryz.func99,by kernel_rfl,by kernel_rfl⟩
 ·cases h;exact⟨_,Tryz.func100,by kernel_rfl,by kernel_rfl⟩
 ·cases h;exact⟨_,Tryz.func101,by kernel_rfl,by kernel_rfl⟩
 ·cases h;exact⟨_,Tryz.func102,by kernel_rfl,by kernel_rfl⟩
 ·cases h;exact⟨_,Tryz.func103,by kernel_rfl,by kernel_rfl⟩
 ·cases h;exact⟨_,Tryz.func104,by kernel_rfl,by kernel_rfl⟩
 ·cases h;exact⟨_,Tryz.func105,by kernel_rfl,by kernel_rfl⟩
 ·cases h;exact⟨_,Tryz.func106,by kernel_rfl,by kernel_rfl⟩
 ·cases h;exact⟨_,Tryz.func107,by kernel_rfl,by kernel_rfl⟩
 ·cases h;exact⟨_,Tryz.func110,by kernel_rfl,by kernel_rfl⟩
 ·cases h;exact⟨_,Tryz.func111,by kernel_rfl,by kernel_rfl⟩
 ·cases h;exact⟨_,Tryz.func112,by kernel_rfl,by kernel_rfl⟩
 ·cases h;exact⟨_,Tryz.func113,by kernel_rfl,by kernel_rfl⟩
 ·cases h;exact⟨_,Tryz.func114,by kernel_rfl,by kernel_rfl⟩
 ·cases h;exact⟨_,Tryz.func115,by kernel_rfl,by kernel_rfl⟩
 ·cases h;exact⟨_,Tryz.func116,by kernel_rfl,by kernel_rfl⟩
 ·cases h;exact⟨_,Tryz.func117,by kernel_rfl,by kernel_rfl⟩
 ·cases h;exact⟨_,Tryz.func118,by kernel_rfl,by kernel_rfl⟩
 ·cases h;exact⟨_,Tryz.func119,by kernel_rfl,by kernel_rfl⟩
 ·cases h;exact⟨_,Tryz.func120,by kernel_rfl,by kernel_rfl⟩
 ·cases h;exact⟨_,Tryz.func121,by kernel_rfl,by kernel_rfl⟩
 ·cases h;exact⟨_,Tryz.func122,by kernel_rfl,by kernel_rfl⟩
 ·cases h
theorem linkedC:Linked Tryz.prog sq ⟨0,fnC,fun _ _ _ _ _=>False⟩:=by
 intro f bfn h
 simp only[fnC] at h
 split at h
 ·cases h;exact⟨_,Tryz.func123,by kernel_rfl,by kernel_rfl⟩
 ·cases h;exact⟨_,Tryz.func124,by kernel_rfl,by kernel_rfl⟩
 ·cases h;exact⟨_,Tryz.func125,by kernel_rfl,by kernel_rfl⟩
 ·cases h;exact⟨_,Tryz.func126,by kernel_rfl,by kernel_rfl⟩
 ·cases h;exact⟨_,Tryz.func127,by kernel_rfl,by kernel_rfl⟩
 ·cases h;exact⟨_,Tryz.func128,by kernel_rfl,by kernel_rfl⟩
 ·cases h;exact⟨_,Tryz.func129,by kernel_rfl,by kernel_rfl⟩
 ·cases h;exact⟨_,Tryz.func130,by kernel_rfl,by kernel_rfl⟩
 ·cases h;exact⟨_,Tryz.func133,by kernel_rfl,by kernel_rfl⟩
 ·cases h;exact⟨_,Tryz.func134,by kernel_rfl,by kernel_rfl⟩
 ·cases h;exact⟨_,Tryz.func135,by kernel_rfl,by kernel_rfl⟩
 ·cases h;exact⟨_,Tryz.func136,by kernel_rfl,by kernel_rfl⟩
 ·cases h;exact⟨_,Tryz.func137,by kernel_rfl,by kernel_rfl⟩
 ·cases h;exact⟨_,Tryz.func138,by kernel_rfl,by kernel_rfl⟩
 ·cases h;exact⟨_,Tryz.func139,by kernel_rfl,by kernel_rfl⟩
 ·cases h;exact⟨_,Tryz.func140,by kernel_rfl,by kernel_rfl⟩
 ·cases h;exact⟨_,Tryz.func141,by kernel_rfl,by kernel_rfl⟩
 ·cases h;exact⟨_,Tryz.func142,by kernel_rfl,by kernel_rfl⟩
 ·cases h;exact⟨_,Tryz.func146,by kernel_rfl,by kernel_rfl⟩
 ·cases h;exact⟨_,Tryz.func147,by kernel_rfl,by kernel_rfl⟩
 ·cases h;exact⟨_,Tryz.func148,by kernel_rfl,by kernel_rfl⟩
 ·cases h;exact⟨_,Tryz.func149,by kernel_rfl,by kernel_rfl⟩
 ·cases h;exact⟨_,Tryz.func150,by kernel_rfl,by kernel_rfl⟩
 ·cases h;exact⟨_,Tryz.func151,by kernel_rfl,by kernel_rfl⟩
 ·cases h;exact⟨_,Tryz.func152,by kernel_rfl,by kernel_rfl⟩
 ·cases h;exact⟨_,Tryz.func153,by kernel_rfl,by kernel_rfl⟩
 ·cases h;exact⟨_,Tryz.func154,by kernel_rfl,by kernel_rfl⟩
 ·cases h;exact⟨_,Tryz.func155,by kernel_rfl,by kernel_rfl⟩
 ·cases h;exact⟨_,Tryz.func156,by kernel_rfl,by kernel_rfl⟩
 ·cases h;exact⟨_,Tryz.func164,by kernel_rfl,by kernel_rfl⟩
 ·cases h;exact⟨_,Tryz.func165,by kernel_rfl,by kernel_rfl⟩
 ·cases h;exact⟨_,Tryz.func166,by kernel_rfl,by kernel_rfl⟩
 ·cases h;exact⟨_,Tryz.func167,by kernel_rfl,by kernel_rfl⟩
 ·cases h;exact⟨_,Tryz.func168,by kernel_rfl,by kernel_rfl⟩
 ·cases h;exact⟨_,Tryz.func169,by kernel_rfl,by kernel_rfl⟩
 ·cases h;exact⟨_,Tryz.func170,by kernel_rfl,by kernel_rfl⟩
 ·cases h;exact⟨_,Tryz.func171,by kernel_rfl,by kernel_rfl⟩
 ·cases h;exact⟨_,Tryz.func172,by kernel_rfl,by kernel_rfl⟩
 ·cases h;exact⟨_,Tryz.func173,by kernel_rfl,by kernel_rfl⟩
 ·cases h;exact⟨_,Tryz.func174,by kernel_rfl,by kernel_rfl⟩
 ·cases h;exact⟨_,Tryz.func175,by kernel_rfl,by kernel_rfl⟩
 ·cases h;exact⟨_,Tryz.func176,by kernel_rfl,by kernel_rfl⟩
 ·cases h;exact⟨_,Tryz.func177,by kernel_rfl,by kernel_rfl⟩
 ·cases h;exact⟨_,Tryz.func178,by kernel_rfl,by kernel_rfl⟩
 ·cases h;exact⟨_,Tryz.func179,by kernel_rfl,by kernel_rfl⟩
 ·cases h;exact⟨_,Tryz.func180,by kernel_rfl,by kernel_rfl⟩
 ·cases h;exact⟨_,Tryz.func181,by kernel_rfl,by kernel_rfl⟩
 ·cases h;exact⟨_,Tryz.func182,by kernel_rfl,by kernel_rfl⟩
 ·cases h;exact⟨_,Tryz.func183,by kernel_rfl,by kernel_rfl⟩
 ·cases h;exact⟨_,Tryz.func184,by kernel_rfl,by kernel_rfl⟩
 ·cases h;exact⟨_,Tryz.func186,by kernel_rfl,by kernel_rfl⟩
 ·cases h
theorem linkedD:Linked Tryz.prog sq ⟨0,fnD,fun _ _ _ _ _=>False⟩:=by
 intro f bfn h
 simp only[fnD] at h
 split at h
 ·cases h;exact⟨_,Tryz.func187,by kernel_rfl,by kernel_rfl⟩
 ·cases h;exact⟨_,Tryz.func188,by kernel_rfl,by kernel_rfl⟩
 ·cases h;exact⟨_,Tryz.func189,by kernel_rfl,by kernel_rfl⟩
 ·cases h;exact⟨_,Tryz.func190,by kernel_rfl,by kernel_rfl⟩
 ·cases h;exact⟨_,Tryz.func191,by kernel_rfl,by kernel_rfl⟩
 ·cases h;exact⟨_,Tryz.func192,by kernel_rfl,by kernel_rfl⟩
 ·cases h;exact⟨_,Tryz.func193,by kernel_rfl,by kernel_rfl⟩
 ·cases h;exact⟨_,Tryz.func194,by kernel_rfl,by kernel_rfl⟩
 ·cases h;exact⟨_,Tryz.func195,by kernel_rfl,by kernel_rfl⟩
 ·cases h;exact⟨_,Tryz.func196,by kernel_rfl,by kernel_rfl⟩
 ·cases h;exact⟨_,Tryz.func197,by kernel_rfl,by kernel_rfl⟩
 ·cases h;exact⟨_,Tryz.func198,by kernel_rfl,by kernel_rfl⟩
 ·cases h;exact⟨_,Tryz.func201,by kernel_rfl,by kernel_rfl⟩
 ·cases h;exact⟨_,Tryz.func202,by kernel_rfl,by kernel_rfl⟩
 ·cases h;exact⟨_,Tryz.func203,by kernel_rfl,by kernel_rfl⟩
 ·cases h;exact⟨_,Tryz.func204,by kernel_rfl,by kernel_rfl⟩
 ·cases h;exact⟨_,Tryz.func205,by kernel_rfl,by kernel_rfl⟩
 ·cases h;exact⟨_,Tryz.func211,by kernel_rfl,by kernel_rfl⟩
 ·cases h;exact⟨_,Tryz.func212,by kernel_rfl,by kernel_rfl⟩
 ·cases h;exact⟨_,Tryz.func214,by kernel_rfl,by kernel_rfl⟩
 ·cases h;exact⟨_,Tryz.func215,by kernel_rfl,by kernel_rfl⟩
 ·cases h;exact⟨_,Tryz.func216,by kernel_rfl,by kernel_rfl⟩
 ·cases h;exact⟨_,Tryz.func217,by kernel_rfl,by kernel_rfl⟩
 ·cases h;exact⟨_,Tryz.func218,by kernel_rfl,by kernel_rfl⟩
 ·cases h;exact⟨_,Tryz.func219,by kernel_rfl,by kernel_rfl⟩
 ·cases h;exact⟨_,Tryz.func220,by kernel_rfl,by kernel_rfl⟩
 ·cases h;exact⟨_,Tryz.func221,by kernel_rfl,by kernel_rfl⟩
 ·cases h;exact⟨_,Tryz.func222,by kernel_rfl,by kernel_rfl⟩
 ·cases h;exact⟨_,Tryz.func234,by kernel_rfl,by kernel_rfl⟩
 ·cases h;exact⟨_,Tryz.func235,by kernel_rfl,by kernel_rfl⟩
 ·cases h;exact⟨_,Tryz.func242,by kernel_rfl,by kernel_rfl⟩
 ·cases h;exact⟨_,Tryz.func243,by kernel_rfl,by kernel_rfl⟩
 ·cases h;exact⟨_,Tryz.func244,by kernel_rfl,by kernel_rfl⟩
 ·cases h;exact⟨_,Tryz.func245,by kernel_rfl,by kernel_rfl⟩
 ·cases h
theorem linked(aA:Nat):Linked Tryz.prog sq (gam aA):=by
 intro f bfn h
 have h:fnOf f=some bfn:=h
 unfold fnOf at h
 split at h
 ·next x hx=>exact linkedA f bfn (by cases h;exact hx)
 split at h
 ·next x hx=>exact linkedB f bfn (by cases h;exact hx)
 split at h
 ·next x hx=>exact linkedC f bfn (by cases h;exact hx)
 exact linkedD f bfn h
end Go.Proofs.YtbnmhbmhafbmiaaGreatDoor.W
end
