/-
Texts of our own, put together: Ir.
-/
import Derived.Test.YtbnmhbmhafbmiaaGreatDoorK2
import Derived.Test.YtbnmhbmhafbmiaaGreatDoorProg
import Derived.KernelRfl
section
namespace Go.Proofs.YtbnmhbmhafbmiaaGreatDoor.W
set_option linter.unusedVariables false
open Go.B
noncomputable def sq (t : Nat) : Bool:=!Tryz.prog.stoodInHeld t && !Tryz.prog.eqGuardType Tryz.prog.depth t
theorem sqOk (t : Nat) (h : sq t = true) : Tryz.prog.stoodInHeld t = false∧Tryz.prog.eqGuardType Tryz.prog.depth t = false:=by
  simpa [sq] using h
noncomputable abbrev irC (f : Func) : Option BFun:=compFun Tryz.prog.underlying Tryz.prog.info? sq f
abbrev oP (d : Nat) (o : BOp) : BOper:=⟨some d,o,none,[]⟩
abbrev oS (o : BOp) : BOper:=⟨none,o,none,[]⟩
abbrev oG (d g : Nat) (b : Bool) (o : BOp) : BOper:=⟨some d,o,some (g,b),[]⟩
abbrev rS (l : List BOper) (c : BCode) : BCode:=.seq (.region l) c
abbrev jM (d a : Nat) : BOper:=oP d (.mov (.t a))
abbrev jI (d : Nat) (k : Int) : BOper:=oP d (.mov (.c (.int .i64 k)))
abbrev jL (d a : Nat) : BOper:=oP d (.load none none (.t a))
abbrev jQ (d a : Nat) : BOper:=oP d (.load none (some 4) (.t a))
abbrev jE (d n a : Nat) : BOper:=oP d (.ext n (.t a))
abbrev jC (d k : Nat) (xs : List Opd) : BOper:=oP d (.call (.c (.fn k [])) xs)
abbrev jA (d n a : Nat) : BOper:=oP d (.lea n (.t a))
abbrev jZ (d n : Nat) : BOper:=oP d (.new n [.int .i64 0,.int .i64 0,.nils,.nils])
abbrev jW (n a b : Nat) : BOper:=oS (.store none n (.t a) (.t b))
abbrev jY (d : Nat) : BOper:=oP d (.build [.int .i64 0,.int .i64 0,.nils,.nils] [])
abbrev jX (d n a b : Nat) : BOper:=oP d (.idx n (.t a) (.t b))
abbrev jJ (d a : Nat) : BOper:=oP d (.not (.t a))
abbrev jB (d : Nat) (o : BinOp) (a b : Nat) : BOper:=oP d (.bin o (.t a) (.t b))
abbrev jD (d : Nat) (o : BinOp) (a : Nat) (k : Int) : BOper:=oP d (.bin o (.t a) (.c (.int .i64 k)))
abbrev jK (d n a : Nat) : BOper:=oP d (.len n (.t a))
abbrev jT (d n a : Nat) : BOper:=oP d (.box n (.t a))
abbrev jN (d a : Nat) : BOper:=oP d (.nilck (.t a))
abbrev jF (d : Nat) (b : Bool) : BOper:=oP d (.mov (.c (.bool b)))
abbrev jP (d a b : Nat) (u : Bool) : BOper:=oP d (.pick (.t a) (.c (.bool u)) (.t b))
abbrev kE (a n : Nat) : BCode:=.cond (.t a) .skip (.exit n)
abbrev cI (k : Int) : Opd:=.c (.int .i64 k)
def ir4 : BFun:=⟨[.tmp 4],rS [jF 4 false] (.seq (rS [jM 21 0,jM 22 1,jC 23 15 [.t 21,.t 22]] (.cond (.t 23) (rS [jF 4 true] .ret) .skip)) (rS [jM 24 0,jC 25 16 [.t 24,cI 0,cI 7],jD 26 .sub 25 3,jM 27 0,jC 28 16 [.t 27,cI 1,cI 7],jD 29 .sub 28 3,oP 30 (.mk 2 2 [.int .i64 0,.int .i64
 0] [(0,1,.t 26),(1,1,.t 29)]),jM 5 30] (rS [jM 31 0,jC 32 16 [.t 31,cI 2,cI 21],jD 33 .sub 32 10,jM 6 33] (rS [jM 34 0,jC 35 16 [.t 34,cI 3,cI 2],oP 36 (.bin .add (cI 1) (.t 35)),jM 7 36] (rS [jM 38 7,jM 39 5,jM 40 6,jC 41 17 [.t 38,.t 39,.t 40],jM 37 41,jE 42 0 37,jE 43 1
 37,jZ 8 25,jW 4 8 42,jM 9 43] (rS [jM 45 7,jM 46 5,jM 47 6,jC 48 18 [.t 45,.t 46,.t 47],jM 44 48,jE 49 0 44,jE 50 1 44,jZ 10 25,jW 4 10 49,jM 11 50] (.seq (rS [jM 51 9,jM 52 11,jB 53 .neq 51 52,jM 54 53,oG 55 54 false (.mov (.t 9)),oG 56 54 false (.bin .eql (.t 55) (cI 0)),oG
 57 54 false (.mov (.t 56)),oG 58 57 true (.load none (some 4) (.t 8)),oG 59 57 true (.load none (some 4) (.t 10)),oG 60 57 true (.call (.c (.fn 19 [])) [.t 58,.t 59]),oG 61 57 true (.not (.t 60)),oG 62 54 false (.pick (.t 57) (.t 61) (.c (.bool false))),jP 63 54 62 true] (.cond (.t 63) (rS
 [jF 4 false] .ret) .skip)) (.seq (rS [jM 64 9,jD 65 .neq 64 0] (.cond (.t 65) (rS [jM 66 9,jD 67 .eql 66 3,jM 4 67] .ret) .skip)) (rS [jM 68 1,jC 69 16 [.t 68,cI 0,cI 64],jM 12 69] (rS [jM 70 1,jC 71 16 [.t 70,cI 1,cI 64],jM 13 71] (rS [jM 73 12,jC 74 20 [.t 73],jM 72 74,jE 75 0 72,
 jE 76 1 72,jM 14 75,jM 15 76] (rS [jM 78 13,jC 79 20 [.t 78],jM 77 79,jE 80 0 77,jE 81 1 77,jM 16 80,jM 17 81] (rS [jQ 83 8,jM 84 14,jM 85 16,oP 86 (.mk 9 2 [.str ⟨#[]⟩,.str ⟨#[]⟩] [(0,1,.t 84),(1,1,.t 85)]),jC 87 21 [.t 83,.t 86],jM 82 87,jE 88 0 82,jE 89 1 82,jM 18 88,jM
 19 89] (rS [jM 90 5,oP 91 (.idx 1 (.t 90) (cI 0)),jL 92 91,jM 93 12,jB 94 .mul 92 93,jM 95 5,oP 96 (.idx 1 (.t 95) (cI 1)),jL 97 96,jM 98 13,jB 99 .mul 97 98,jB 100 .add 94 99,jM 20 100] (rS [jM 101 15,jD 102 .eql 101 0,jM 103 102,oG 104 103 true (.mov (.t 17)),oG 105 103 true (.bin
 .eql (.t 104) (cI 0)),oP 106 (.pick (.t 103) (.t 105) (.c (.bool false))),jM 107 106,oG 108 107 true (.mov (.t 19)),oG 109 107 true (.bin .eql (.t 108) (cI 0)),oP 110 (.pick (.t 107) (.t 109) (.c (.bool false))),jM 111 110,oG 112 111 true (.mov (.t 18)),oG 113 111 true (.mov (.t 20)),oG
 114 111 true (.mov (.t 6)),oG 115 111 true (.bin .eql (.t 113) (.t 114)),oG 116 111 true (.mov (.t 115)),oG 117 116 false (.mov (.t 7)),oG 118 116 false (.bin .eql (.t 117) (cI 2)),oG 119 116 false (.mov (.t 118)),oG 120 119 true (.mov (.t 20)),oG 121 119 true (.mov (.t 6)),oG 122 119 true
 (.bin .lss (.t 120) (.t 121)),oG 123 116 false (.pick (.t 119) (.t 122) (.c (.bool false))),oG 124 111 true (.pick (.t 116) (.c (.bool true)) (.t 123)),oG 125 111 true (.beq false (.t 112) (.t 124)),oP 126 (.pick (.t 111) (.t 125) (.c (.bool false))),jM 4 126] .ret)))))))))))))))⟩
theorem irOk4 : irC Tryz.f4 = some ir4:=by kernel_rfl
def ir15 : BFun:=⟨[.tmp 4],rS [jF 4 false] (rS [jM 5 0,jK 6 1 5,jD 7 .gtr 6 3000,jM 8 7,oG 9 8 false (.mov (.t 1)),oG 10 8 false (.len 1 (.t 9)),oG 11 8 false (.bin .gtr (.t 10) (cI 3000)),jP 12 8 11 true,jM 4 12] .ret)⟩
theorem irOk15 : irC Tryz.f15 = some ir15:=by kernel_rfl
def ir16 : BFun:=⟨[.tmp 6],rS [jI 6 0] (.seq (rS [jM 7 1,jM 8 0,jK 9 1 8,jB 10 .geq 7 9,jM 11 10,oG 12 11 false (.mov (.t 2)),oG 13 11 false (.bin .lss (.t 12) (cI 1)),jP 14 11 13 true] (.cond (.t 14) (rS [jI 6 0] .ret) .skip)) (rS [jM 15 0,jM 16 1,jX 17 1 15 16,jL 18 17,oP 19 (.conv
 .i64 (.t 18)),jM 20 2,jB 21 .rem 19 20,jM 6 21] .ret))⟩
theorem irOk16 : irC Tryz.f16 = some ir16:=by kernel_rfl
def ir17 : BFun:=⟨[.cell 6 (some 4),.tmp 7],rS [jZ 6 25,jI 7 0] (.seq (rS [jM 10 0,jC 11 45 [.t 10,cI 1,cI 2],jJ 12 11,jM 13 12,oG 14 13 false (.mov (.t 1)),oG 15 13 false (.len 1 (.t 14)),oG 16 13 false (.call (.c (.fn 46 [])) [.t 15]),oG 17 13 false (.not (.t 16)),jP 18 13 17 true,
 jM 19 18,oG 20 19 false (.mov (.t 2)),oG 21 19 false (.call (.c (.fn 45 [])) [.t 20,cI (-1000),cI 1000]),oG 22 19 false (.not (.t 21)),jP 23 19 22 true] (.cond (.t 23) (rS [jY 24,jW 4 6 24,jI 7 2] .ret) .skip)) (.seq (rS [jM 25 1,jK 26 1 25,jI 27 0] (.block 0 (.loop (rS [jB 28 .lss 27
 26] (.seq (kE 28 0) (.seq (.block 1 (rS [jX 29 1 25 27,jL 30 29,jM 9 30] (rS [jM 31 9,jC 32 45 [.t 31,cI (-20),cI 20],jJ 33 32] (.cond (.t 33) (rS [jY 34,jW 4 6 34,jI 7 2] .ret) .skip)))) (.region [jD 35 .add 27 1,jM 27 35]))))))) (rS [jM 36 0,jM 37 1,jM 38 2,jC 39 47 [.t 36,.t 37,.t
 38],jE 40 0 39,jE 41 1 39,jW 4 6 40,jM 7 41] .ret)))⟩
theorem irOk17 : irC Tryz.f17 = some ir17:=by kernel_rfl
def ir18 : BFun:=⟨[.cell 6 (some 4),.tmp 7],rS [jZ 6 25,jI 7 0] (.seq (rS [jM 16 0,jD 17 .neq 16 1,jM 18 17,oG 19 18 true (.mov (.t 0)),oG 20 18 true (.bin .neq (.t 19) (cI 2)),oP 21 (.pick (.t 18) (.t 20) (.c (.bool false))),jM 22 21,oG 23 22 false (.mov (.t 1)),oG 24 22 false (.len 1
 (.t 23)),oG 25 22 false (.call (.c (.fn 48 [])) [.t 24,cI 1,cI 3]),oG 26 22 false (.not (.t 25)),jP 27 22 26 true,jM 28 27,oG 29 28 false (.mov (.t 2)),oG 30 28 false (.call (.c (.fn 48 [])) [.t 29,cI (-1000),cI 1000]),oG 31 28 false (.not (.t 30)),jP 32 28 31 true] (.cond (.t 32) (rS
 [jY 33,jW 4 6 33,jI 7 2] .ret) .skip)) (.seq (rS [jI 8 0] (.block 0 (.loop (.seq (rS [jM 34 8,jM 35 1,jK 36 1 35,jB 37 .lss 34 36] (kE 37 0)) (.seq (.block 1 (rS [jM 40 1,jM 41 8,jX 42 1 40 41,jL 43 42,jC 44 48 [.t 43,cI (-20),cI 20],jJ 45 44] (.cond (.t 45) (rS [jY 46,jW 4 6 46,jI 7
 2] .ret) .skip))) (.region [jM 38 8,jD 39 .add 38 1,jM 8 39])))))) (rS [jM 48 0,jM 49 1,jM 50 2,jC 51 49 [.t 48,.t 49,.t 50],jM 47 51,jE 52 0 47,jE 53 1 47,jZ 9 25,jW 4 9 52,jM 10 53] (.seq (rS [jM 54 10,jD 55 .neq 54 0] (.cond (.t 55) (rS [jY 56,jM 57 10,jW 4 6 56,jM 7 57] .ret)
 .skip)) (rS [jQ 59 9,jC 60 50 [.t 59],jM 58 60,jE 61 0 58,jE 62 1 58,jZ 11 25,jW 4 11 61,jM 12 62] (.seq (rS [jM 63 12,jD 64 .neq 63 0] (.cond (.t 64) (rS [jY 65,jM 66 12,jW 4 6 65,jM 7 66] .ret) .skip)) (rS [jC 67 51 [],oP 68 (.build [.int .i64 0,.int .i64 0,.nils,.nils,.nils]
 [(0,4,.t 67)]),oP 13 (.new 28 [.int .i64 0,.int .i64 0,.nils,.nils,.nils]),jW 5 13 68] (rS [jM 70 1,jK 71 1 70,jC 72 52 [.t 13,.t 71],jM 69 72,jE 73 0 69,jE 74 1 69,jZ 14 25,jW 4 14 73,jM 15 74] (.seq (rS [jM 75 15,jD 76 .neq 75 0] (.cond (.t 76) (rS [jY 77,jM 78 15,jW 4 6 77,
 jM 7 78] .ret) .skip)) (rS [jQ 79 11,jQ 80 14,jC 81 53 [.t 79,.t 80],jE 82 0 81,jE 83 1 81,jW 4 6 82,jM 7 83] .ret))))))))))⟩
theorem irOk18 : irC Tryz.f18 = some ir18:=by kernel_rfl
def ir19 : BFun:=⟨[.tmp 4],rS [jT 2 25 0,jT 3 25 1,jF 4 false] (.seq (rS [jA 6 0 2,jL 7 6,jA 8 0 3,jL 9 8,jB 10 .neq 7 9,jM 11 10,oG 12 11 false (.lea 1 (.t 2)),oG 13 11 false (.load none none (.t 12)),oG 14 11 false (.lea 1 (.t 3)),oG 15 11 false (.load none none (.t 14)),oG 16 11
 false (.bin .neq (.t 13) (.t 15)),jP 17 11 16 true,jM 18 17,oG 19 18 false (.lea 2 (.t 2)),oG 20 18 false (.load none none (.t 19)),oG 21 18 false (.lea 2 (.t 3)),oG 22 18 false (.load none none (.t 21)),oG 23 18 false (.call (.c (.fn 54 [])) [.t 20,.t 22]),oG 24 18 false (.not (.t 23)),
 jP 25 18 24 true,jM 26 25,oG 27 26 false (.lea 3 (.t 2)),oG 28 26 false (.load none none (.t 27)),oG 29 26 false (.len 1 (.t 28)),oG 30 26 false (.lea 3 (.t 3)),oG 31 26 false (.load none none (.t 30)),oG 32 26 false (.len 1 (.t 31)),oG 33 26 false (.bin .neq (.t 29) (.t 32)),jP 34 26 33
 true] (.cond (.t 34) (rS [jF 4 false] .ret) .skip)) (.seq (rS [jI 5 0] (.block 0 (.loop (.seq (rS [jM 35 5,jA 36 3 2,jL 37 36,jK 38 1 37,jB 39 .lss 35 38] (kE 39 0)) (.seq (.block 1 (rS [jA 42 3 2,jL 43 42,jM 44 5,jX 45 1 43 44,jL 46 45,jA 47 3 3,jL 48 47,jM 49 5,jX 50 1 48 49,jL 51
 50,jC 52 55 [.t 46,.t 51],jJ 53 52] (.cond (.t 53) (rS [jF 4 false] .ret) .skip))) (.region [jM 40 5,jD 41 .add 40 1,jM 5 41])))))) (rS [jF 4 true] .ret)))⟩
theorem irOk19 : irC Tryz.f19 = some ir19:=by kernel_rfl
def ir20 : BFun:=⟨[.tmp 2,.tmp 3],rS [oP 2 (.mov (.c (.str ⟨#[]⟩))),jI 3 0] (.seq (rS [jM 4 0,jC 5 56 [.t 4],jJ 6 5] (.cond (.t 6) (rS [oP 2 (.mov (.c (.str ⟨#[]⟩))),jI 3 2] .ret) .skip)) (rS [jM 7 0,jC 8 57 [.t 7],jM 2 8,jI 3 0] .ret))⟩
theorem irOk20 : irC Tryz.f20 = some ir20:=by kernel_rfl
def ir21 : BFun:=⟨[.tmp 4,.tmp 5],rS [jT 2 25 0,jF 4 false,jI 5 0] (.seq (.block 0 (rS [jQ 7 2,jC 8 58 [.t 7],jJ 9 8,jM 10 9,oG 11 10 false (.mov (.t 1)),oG 12 10 false (.call (.c (.fn 59 [])) [.t 11]),oG 13 10 false (.not (.t 12)),jP 14 10 13 true,jM 6 14] (.cond (.t 6) (rS [jF 4
 false,jI 5 1] .ret) (rS [jM 16 1,jK 17 1 16,jA 18 0 2,jL 19 18,jB 20 .neq 17 19,jM 15 20] (.cond (.t 15) (rS [jF 4 false,jI 5 2] .ret) .skip))))) (rS [jQ 21 2,jC 22 60 [.t 21],jM 23 1,jC 24 62 [.t 23],jC 25 61 [.t 22,.t 24],jM 4 25,jI 5 0] .ret))⟩
theorem irOk21 : irC Tryz.f21 = some ir21:=by kernel_rfl
def ir25 : BFun:=⟨[.cell 0 (some 4)],rS [jZ 0 25] (rS [oP 6 (.call (.c (.fn 66 [])) [cI 1,cI 1,cI 0,.c (.fn 67 []),.c (.fn 68 [])]),jM 5 6,jE 7 0 5,jE 8 1 5,jZ 1 77,jW 4 1 7,jM 2 8] (rS [jQ 10 1,jC 11 69 [.t 10],jM 9 11,jE 12 0 9,jE 13 1 9,jZ 3 25,jW 4 3 12,jM 4 13] (rS [jQ 14
 3,jW 4 0 14] .ret)))⟩
theorem irOk25 : irC Tryz.f25 = some ir25:=by kernel_rfl
def ir41 : BFun:=⟨[.cell 4 (some 5)],rS [jT 2 25 0,oP 4 (.new 28 [.int .i64 0,.int .i64 0,.nils,.nils,.nils])] (rS [jQ 5 2,jM 6 1,oP 7 (.build [.int .i64 0,.int .i64 0,.nils,.nils,.nils] [(0,4,.t 5),(4,1,.t 6)]),jW 5 4 7] .ret)⟩
theorem irOk41 : irC Tryz.f41 = some ir41:=by kernel_rfl
def ir45 : BFun:=⟨[.tmp 6],rS [jF 6 false] (rS [jM 7 1,jM 8 0,jB 9 .leq 7 8,jM 10 9,oG 11 10 true (.mov (.t 0)),oG 12 10 true (.mov (.t 2)),oG 13 10 true (.bin .leq (.t 11) (.t 12)),oP 14 (.pick (.t 10) (.t 13) (.c (.bool false))),jM 6 14] .ret)⟩
theorem irOk45 : irC Tryz.f45 = some ir45:=by kernel_rfl
def ir46 : BFun:=⟨[.tmp 2],rS [jF 2 false] (rS [jM 3 0,jC 4 45 [.t 3,cI 1,cI 3],jM 2 4] .ret)⟩
theorem irOk46 : irC Tryz.f46 = some ir46:=by kernel_rfl
def ir47 : BFun:=⟨[.cell 6 (some 4),.tmp 7],rS [jT 3 2 0,jZ 6 25,jI 7 0] (rS [jM 19 1,jK 20 1 19,jM 8 20] (rS [jM 21 8,jC 22 94 [.t 21],oP 23 (.mksl 2 8 [.int .i64 0] (.t 22) (.t 22)),oP 9 (.new 36 [.nils]),jW 1 9 23] (.seq (rS [jL 24 9,jK 25 1 24,jI 26 0] (.block 0 (.loop (rS [jB 27
 .lss 26 25] (.seq (kE 27 0) (.seq (.block 1 (rS [jM 28 26,jM 10 28] (rS [jM 29 8,jM 30 10,jC 31 95 [.t 29,.t 30],jK 32 1 31,jI 33 0] (.block 2 (.loop (rS [jB 34 .lss 33 32] (.seq (kE 34 2) (.seq (.block 3 (rS [jM 35 33,jX 36 1 31 33,jL 37 36,jM 11 35,jM 12 37] (rS [jM 38 12,jD 39 .eql
 38 1] (.cond (.t 39) (.region [jL 40 9,jM 41 10,jX 42 1 40 41,jL 43 42,jM 44 1,jM 45 11,jX 46 1 44 45,jL 47 46,jB 48 .add 43 47,jX 49 1 40 41,jW 1 49 48]) .skip)))) (.region [jD 50 .add 33 1,jM 33 50]))))))))) (.region [jD 51 .add 26 1,jM 26 51]))))))) (rS [jM 53 8,jM 54 2,oP 55
 (.mkfn 97 [.t 3]),oP 56 (.mkfn 98 [.t 9,.t 3]),jC 57 96 [.t 53,.t 54,cI 1000,.t 55,.t 56],jM 52 57,jE 58 0 52,jE 59 1 52,jZ 13 77,jW 4 13 58,jM 14 59] (.seq (rS [jM 60 14,jJ 61 60] (.cond (.t 61) (rS [jY 62,jW 4 6 62,jI 7 3] .ret) .skip)) (rS [jQ 64 13,jC 65 69 [.t 64],jM 63 65,
 jE 66 0 63,jE 67 1 63,jZ 15 25,jW 4 15 66,jM 16 67] (rS [jM 69 8,jC 70 99 [.t 69],jM 68 70,jE 71 0 68,jE 72 1 68,jZ 17 25,jW 4 17 71,jM 18 72] (rS [jQ 73 15,jM 74 16,jQ 75 17,jM 76 18,jC 77 88 [.t 73,.t 74,.t 75,.t 76],jE 78 0 77,jE 79 1 77,jW 4 6 78,jM 7 79] .ret))))))))⟩
theorem irOk47 : irC Tryz.f47 = some ir47:=by kernel_rfl
def ir48 : BFun:=⟨[.tmp 6],rS [jF 6 false] (rS [jM 7 0,jM 8 1,jB 9 .geq 7 8,jM 10 9,oG 11 10 true (.mov (.t 0)),oG 12 10 true (.mov (.t 2)),oG 13 10 true (.bin .leq (.t 11) (.t 12)),oP 14 (.pick (.t 10) (.t 13) (.c (.bool false))),jM 6 14] .ret)⟩
theorem irOk48 : irC Tryz.f48 = some ir48:=by kernel_rfl
def ir49 : BFun:=⟨[.cell 6 (some 4),.tmp 7],rS [jZ 6 25,jI 7 0] (rS [jM 19 1,jK 20 1 19,jM 8 20] (rS [jM 21 8,oP 22 (.build [.int .i64 0,.int .i64 0,.nils,.nils] [(0,1,.t 21)]),jZ 9 25,jW 4 9 22] (rS [jM 23 2,oP 24 (.mk 2 1 [.int .i64 0] [(0,1,.t 23)]),jM 10 24] (rS [jI 11 (-1)]
 (.seq (rS [jI 12 0] (.block 0 (.loop (.seq (rS [jM 25 12,jM 26 10,jK 27 1 26,jB 28 .lss 25 27] (kE 28 0)) (.seq (.block 1 (rS [oP 31 (.mk 2 0 [] []),jM 13 31] (.seq (rS [jI 14 0] (.block 2 (.loop (.seq (rS [jM 32 14,jM 33 8,jC 34 100 [.t 33],jB 35 .lss 32 34] (kE 35 2)) (.seq (.block 3 (rS
 [jM 38 10,jM 39 12,jX 40 1 38 39,oP 41 (.load (some 2) none (.t 40)),jM 42 1,jM 43 14,⟨some 44,.call (.c (.fn 101 [])) [.t 42,.t 43],none,[2]⟩,jB 45 .sub 41 44,jM 15 45] (.seq (rS [jM 46 12,jM 47 11,jB 48 .eql 46 47,jM 49 48,oG 50 49 false (.mov (.t 0)),oG 51 49 false (.bin .eql
 (.t 50) (cI 1)),oG 52 49 false (.mov (.t 51)),oG 53 52 true (.mov (.t 15)),oG 54 52 true (.bin .rem (.t 53) (cI 2)),oG 55 52 true (.bin .neq (.t 54) (cI 0)),oG 56 49 false (.pick (.t 52) (.t 55) (.c (.bool false))),jP 57 49 56 true] (.cond (.t 57) (.seq (rS [jM 58 11,jD 59 .lss 58 0] (.cond
 (.t 59) (rS [jM 60 10,jK 61 1 60,jM 11 61] (.region [jM 62 10,oP 63 (.mk 2 1 [.int .i64 0] [(0,1,cI 0)]),oP 64 (.app 2 1 8 (.t 62) (.t 63)),jM 10 64])) .skip)) (rS [jM 65 13,jM 66 11,oP 67 (.mk 2 1 [.int .i64 0] [(0,1,.t 66)]),oP 68 (.app 2 1 8 (.t 65) (.t 67)),jM 13 68] (.exit 3)))
 .skip)) (rS [jM 69 15,jM 70 15,jD 71 .rem 70 2,jD 72 .add 71 2,jD 73 .rem 72 2,jB 74 .sub 69 73,jD 75 .quo 74 2,jM 16 75] (rS [jI 17 (-1)] (.seq (rS [jI 18 0] (.block 4 (.loop (.seq (rS [jM 76 18,jM 77 10,jK 78 1 77,jB 79 .lss 76 78] (kE 79 4)) (.seq (.block 5 (rS [jM 82 18,jM 83 11,jB
 84 .neq 82 83,jM 85 84,oG 86 85 true (.mov (.t 10)),oG 87 85 true (.mov (.t 18)),oG 88 85 true (.idx 1 (.t 86) (.t 87)),oG 89 85 true (.load none none (.t 88)),oG 90 85 true (.mov (.t 16)),oG 91 85 true (.bin .eql (.t 89) (.t 90)),oP 92 (.pick (.t 85) (.t 91) (.c (.bool false)))] (.cond
 (.t 92) (.region [jM 93 18,jM 17 93]) .skip))) (.region [jM 80 18,jD 81 .add 80 1,jM 18 81])))))) (.seq (rS [jM 94 17,jD 95 .lss 94 0] (.cond (.t 95) (rS [jM 96 10,jK 97 1 96,jM 17 97] (.region [jM 98 10,jM 99 16,oP 100 (.mk 2 1 [.int .i64 0] [(0,1,.t 99)]),oP 101 (.app 2 1 8 (.t 98)
 (.t 100)),jM 10 101])) .skip)) (.region [jM 102 13,jM 103 17,oP 104 (.mk 2 1 [.int .i64 0] [(0,1,.t 103)]),oP 105 (.app 2 1 8 (.t 102) (.t 104)),jM 13 105])))))))) (.region [jM 36 14,jD 37 .add 36 1,jM 14 37])))))) (.seq (rS [jM 106 10,jK 107 1 106,jD 108 .gtr 107 1000] (.cond (.t 108)
 (rS [jY 109,jW 4 6 109,jI 7 3] .ret) .skip)) (rS [jA 110 2 9,jL 111 110,jM 112 12,jM 113 11,jB 114 .neq 112 113,jM 115 114,oG 116 115 true (.mov (.t 10)),oG 117 115 true (.mov (.t 12)),oG 118 115 true (.idx 1 (.t 116) (.t 117)),oG 119 115 true (.load none none (.t 118)),oG 120 115 true
 (.bin .eql (.t 119) (cI 0)),oG 121 115 true (.mov (.t 120)),oG 122 121 false (.mov (.t 0)),oG 123 121 false (.bin .eql (.t 122) (cI 2)),oG 124 121 false (.mov (.t 123)),oG 125 124 true (.mov (.t 10)),oG 126 124 true (.mov (.t 12)),oG 127 124 true (.idx 1 (.t 125) (.t 126)),oG 128 124 true
 (.load none none (.t 127)),oG 129 124 true (.bin .gtr (.t 128) (cI 0)),oG 130 121 false (.pick (.t 124) (.t 129) (.c (.bool false))),oG 131 115 true (.pick (.t 121) (.c (.bool true)) (.t 130)),oP 132 (.pick (.t 115) (.t 131) (.c (.bool false))),oP 133 (.mk 4 1 [.bool false] [(0,1,.t 132)]),
 oP 134 (.app 4 1 1 (.t 111) (.t 133)),jA 135 2 9,jW 1 135 134] (.region [jA 136 3 9,jL 137 136,jM 138 13,oP 139 (.mk 36 1 [.nils] [(0,1,.t 138)]),oP 140 (.app 36 1 24 (.t 137) (.t 139)),jA 141 3 9,jW 1 141 140])))))) (.region [jM 29 12,jD 30 .add 29 1,jM 12 30])))))) (rS [jQ 142 9,jW
 4 6 142,jI 7 0] .ret))))))⟩
theorem irOk49 : irC Tryz.f49 = some ir49:=by kernel_rfl
def ir50 : BFun:=⟨[.cell 2 (some 4),.tmp 3],rS [jT 1 25 0,jZ 2 25,jI 3 0] (.seq (rS [jA 4 2 1,jL 5 4,jK 6 1 5,jD 7 .gtr 6 150] (.cond (.t 7) (rS [jY 8,jW 4 2 8,jI 3 3] .ret) .skip)) (rS [jQ 9 1,jW 4 2 9,jI 3 0] .ret))⟩
theorem irOk50 : irC Tryz.f50 = some ir50:=by kernel_rfl
def ir51 : BFun:=⟨[.cell 0 (some 4)],rS [jZ 0 25] (rS [oP 1 (.mk 4 2 [.bool false,.bool false] [(0,1,.c (.bool true)),(1,1,.c (.bool false))]),oP 2 (.mk 2 2 [.int .i64 0,.int .i64 0] [(0,1,cI 1),(1,1,cI 0)]),oP 3 (.mk 2 2 [.int .i64 0,.int .i64 0] [(0,1,cI 1),(1,1,cI 0)]),oP
 4 (.mk 36 2 [.nils,.nils] [(0,1,.t 2),(1,1,.t 3)]),oP 5 (.build [.int .i64 0,.int .i64 0,.nils,.nils] [(0,1,cI 1),(2,1,.t 1),(3,1,.t 4)]),jT 6 25 5,jC 7 102 [.t 6],jW 4 0 7] .ret)⟩
theorem irOk51 : irC Tryz.f51 = some ir51:=by kernel_rfl
def ir52 : BFun:=⟨[.cell 4 (some 4),.tmp 5],rS [jZ 4 25,jI 5 0] (rS [jM 10 0,jN 11 10,jA 12 0 11,jQ 13 12,jC 14 103 [.t 13],jM 9 14,jE 15 0 9,jE 16 1 9,jZ 6 25,jW 4 6 15,jM 7 16] (.seq (rS [jI 8 1] (.block 0 (.loop (.seq (rS [jM 17 8,jM 18 1,jB 19 .lss 17 18,jM 20 19,oG 21 20
 true (.mov (.t 7)),oG 22 20 true (.bin .eql (.t 21) (cI 0)),oP 23 (.pick (.t 20) (.t 22) (.c (.bool false)))] (kE 23 0)) (.seq (.block 1 (.region [jM 27 0,jN 28 27,jA 29 0 28,jQ 30 29,jQ 31 6,jC 32 104 [.t 30,.t 31],jM 26 32,jE 33 0 26,jE 34 1 26,jW 4 6 33,jM 7 34])) (.region [jM 24
 8,jD 25 .add 24 1,jM 8 25])))))) (rS [jQ 35 6,jM 36 7,jW 4 4 35,jM 5 36] .ret)))⟩
theorem irOk52 : irC Tryz.f52 = some ir52:=by kernel_rfl
def ir53 : BFun:=⟨[.cell 4 (some 4),.tmp 5],rS [jT 2 25 0,jT 3 25 1,jZ 4 25,jI 5 0] (rS [jC 6 105 [.t 2,.t 3,cI 1],jE 7 0 6,jE 8 1 6,jW 4 4 7,jM 5 8] .ret)⟩
theorem irOk53 : irC Tryz.f53 = some ir53:=by kernel_rfl
def ir54 : BFun:=⟨[.tmp 4],rS [jF 4 false] (.seq (rS [jM 6 0,jK 7 1 6,jM 8 1,jK 9 1 8,jB 10 .neq 7 9] (.cond (.t 10) (rS [jF 4 false] .ret) .skip)) (.seq (rS [jI 5 0] (.block 0 (.loop (.seq (rS [jM 11 5,jM 12 0,jK 13 1 12,jB 14 .lss 11 13] (kE 14 0)) (.seq (.block 1 (rS [jM 17 0,jM 18 5,
 jX 19 1 17 18,jL 20 19,jM 21 1,jM 22 5,jX 23 1 21 22,jL 24 23,oP 25 (.beq true (.t 20) (.t 24))] (.cond (.t 25) (rS [jF 4 false] .ret) .skip))) (.region [jM 15 5,jD 16 .add 15 1,jM 5 16])))))) (rS [jF 4 true] .ret)))⟩
theorem irOk54 : irC Tryz.f54 = some ir54:=by kernel_rfl
def ir55 : BFun:=⟨[.tmp 4],rS [jF 4 false] (.seq (rS [jM 6 0,jK 7 1 6,jM 8 1,jK 9 1 8,jB 10 .neq 7 9] (.cond (.t 10) (rS [jF 4 false] .ret) .skip)) (.seq (rS [jI 5 0] (.block 0 (.loop (.seq (rS [jM 11 5,jM 12 0,jK 13 1 12,jB 14 .lss 11 13] (kE 14 0)) (.seq (.block 1 (rS [jM 17 0,jM 18 5,
 jX 19 1 17 18,jL 20 19,jM 21 1,jM 22 5,jX 23 1 21 22,jL 24 23,jB 25 .neq 20 24] (.cond (.t 25) (rS [jF 4 false] .ret) .skip))) (.region [jM 15 5,jD 16 .add 15 1,jM 5 16])))))) (rS [jF 4 true] .ret)))⟩
theorem irOk55 : irC Tryz.f55 = some ir55:=by kernel_rfl
def ir56 : BFun:=⟨[.tmp 2],rS [jF 2 false] (rS [jM 3 0,jC 4 45 [.t 3,cI 0,cI 1000000000],jM 2 4] .ret)⟩
theorem irOk56 : irC Tryz.f56 = some ir56:=by kernel_rfl
def ir57 : BFun:=⟨[.tmp 2],rS [oP 2 (.mov (.c (.str ⟨#[]⟩)))] (rS [oP 3 (.mov (.c (.str ⟨#[]⟩)))] (.seq (.block 0 (.loop (.seq (rS [jM 4 0,jD 5 .gtr 4 0] (kE 5 0)) (.seq (.block 1 (.region [jM 8 3,jM 9 0,jD 10 .rem 9 2,jM 11 0,jD 12 .rem 11 2,jD 13 .add 12 1,oP 14 (.sslice (.c (.str
 ⟨#[97,98]⟩)) (some (.t 10)) (some (.t 13))),jB 15 .add 8 14,jM 3 15])) (.region [jM 6 0,jD 7 .quo 6 2,jM 0 7]))))) (rS [jM 16 3,jM 2 16] .ret)))⟩
theorem irOk57 : irC Tryz.f57 = some ir57:=by kernel_rfl
def ir58 : BFun:=⟨[.tmp 2],rS [jT 1 25 0,jF 2 false] (rS [jA 8 2 1,jL 9 8,jK 10 1 9,jM 3 10] (.seq (rS [jA 11 0 1,jL 12 11,jC 13 46 [.t 12],jJ 14 13,jM 15 14,oG 16 15 false (.mov (.t 3)),oG 17 15 false (.call (.c (.fn 45 [])) [.t 16,cI 1,cI 150]),oG 18 15 false (.not (.t 17)),jP 19
 15 18 true,jM 20 19,oG 21 20 false (.lea 3 (.t 1)),oG 22 20 false (.load none none (.t 21)),oG 23 20 false (.len 1 (.t 22)),oG 24 20 false (.mov (.t 3)),oG 25 20 false (.bin .neq (.t 23) (.t 24)),jP 26 20 25 true,jM 27 26,oG 28 27 false (.lea 1 (.t 1)),oG 29 27 false (.load none none (.t
 28)),oG 30 27 false (.mov (.t 3)),oG 31 27 false (.bin .sub (.t 30) (cI 1)),oG 32 27 false (.call (.c (.fn 45 [])) [.t 29,cI 0,.t 31]),oG 33 27 false (.not (.t 32)),jP 34 27 33 true] (.cond (.t 34) (rS [jF 2 false] .ret) .skip)) (.seq (rS [jA 35 3 1,jL 36 35,jK 37 1 36,jI 38 0] (.block 0
 (.loop (rS [jB 39 .lss 38 37] (.seq (kE 39 0) (.seq (.block 1 (rS [jX 40 1 36 38,jL 41 40,jM 5 41] (.seq (rS [jM 42 5,jK 43 1 42,jA 44 0 1,jL 45 44,jC 46 94 [.t 45],jB 47 .neq 43 46] (.cond (.t 47) (rS [jF 2 false] .ret) .skip)) (rS [jM 48 5,jK 49 1 48,jI 50 0] (.block 2 (.loop (rS [jB 51
 .lss 50 49] (.seq (kE 51 2) (.seq (.block 3 (rS [jX 52 1 48 50,jL 53 52,jM 7 53] (rS [jM 54 7,jM 55 3,jD 56 .sub 55 1,jC 57 45 [.t 54,cI 0,.t 56],jJ 58 57] (.cond (.t 58) (rS [jF 2 false] .ret) .skip)))) (.region [jD 59 .add 50 1,jM 50 59])))))))))) (.region [jD 60 .add 38 1,jM 38
 60]))))))) (rS [jF 2 true] .ret))))⟩
theorem irOk58 : irC Tryz.f58 = some ir58:=by kernel_rfl
def ir59 : BFun:=⟨[.tmp 2],rS [jF 2 false] (.seq (rS [jM 5 0,jK 6 1 5,jI 7 0] (.block 0 (.loop (rS [jB 8 .lss 7 6] (.seq (kE 8 0) (.seq (.block 1 (rS [jX 9 1 5 7,jL 10 9,jM 4 10] (rS [jM 11 4,jC 12 63 [.t 11],jJ 13 12] (.cond (.t 13) (rS [jF 2 false] .ret) .skip)))) (.region [jD 14 .add 7
 1,jM 7 14]))))))) (rS [jF 2 true] .ret))⟩
theorem irOk59 : irC Tryz.f59 = some ir59:=by kernel_rfl
def ir60 : BFun:=⟨[.cell 2 (some 4)],rS [jT 1 25 0,jZ 2 77] (rS [jA 9 0 1,oP 10 (.load (some 25) none (.t 9)),jA 11 1 1,oP 12 (.load (some 25) none (.t 11)),jA 13 2 1,jL 14 13,⟨some 15,.call (.c (.fn 106 [])) [.t 14],none,[25]⟩,oP 16 (.build [.int .i64 0,.int .i64 0,.nils,.nils]
 [(0,1,.t 10),(1,1,.t 12),(2,1,.t 15)]),jZ 3 77,jW 4 3 16] (.seq (rS [jA 17 3 1,jL 18 17,jK 19 1 18,jI 20 0] (.block 0 (.loop (rS [jB 21 .lss 20 19] (.seq (kE 21 0) (.seq (.block 1 (rS [jX 22 1 18 20,jL 23 22,jM 5 23] (rS [oP 6 (.mov (.c .nils))] (.seq (rS [jM 24 5,jK 25 1 24,jI 26
 0] (.block 2 (.loop (rS [jB 27 .lss 26 25] (.seq (kE 27 2) (.seq (.block 3 (rS [jX 28 1 24 26,jL 29 28,jM 8 29] (.region [jM 30 6,jM 31 8,oP 32 (.mk 3 1 [.int .i64 0] [(0,1,.t 31)]),oP 33 (.app 3 1 8 (.t 30) (.t 32)),jM 6 33]))) (.region [jD 34 .add 26 1,jM 26 34]))))))) (.region [jA 35 3
 3,jL 36 35,jM 37 6,oP 38 (.mk 80 1 [.nils] [(0,1,.t 37)]),oP 39 (.app 80 1 24 (.t 36) (.t 38)),jA 40 3 3,jW 1 40 39]))))) (.region [jD 41 .add 20 1,jM 20 41]))))))) (rS [jQ 42 3,jW 4 2 42] .ret)))⟩
theorem irOk60 : irC Tryz.f60 = some ir60:=by kernel_rfl
def ir61 : BFun:=⟨[.tmp 4],rS [jT 2 77 0,jF 4 false] (rS [jA 8 1 2,jL 9 8,jM 5 9] (.seq (rS [jM 10 1,jK 11 1 10,jI 12 0] (.block 0 (.loop (rS [jB 13 .lss 12 11] (.seq (kE 13 0) (.seq (.block 1 (rS [jX 14 1 10 12,jL 15 14,jM 7 15] (.region [jA 16 3 2,jL 17 16,jM 18 5,jX 19 1 17 18,jL
 20 19,jM 21 7,jX 22 1 20 21,jL 23 22,jM 5 23]))) (.region [jD 24 .add 12 1,jM 12 24]))))))) (rS [jA 25 2 2,jL 26 25,jM 27 5,jX 28 1 26 27,jL 29 28,jM 4 29] .ret)))⟩
theorem irOk61 : irC Tryz.f61 = some ir61:=by kernel_rfl
def ir62 : BFun:=⟨[.tmp 2],rS [oP 2 (.mov (.c .nils))] (rS [jI 3 0] (.seq (rS [jM 12 0,jK 13 1 12,jI 14 0] (.block 0 (.loop (rS [jB 15 .lss 14 13] (.seq (kE 15 0) (.seq (.block 1 (rS [jX 16 1 12 14,jL 17 16,jM 5 17] (.region [jM 18 3,jM 19 5,jK 20 0 19,oP 21 (.imax (.t 18) (.t 20)),jM 3
 21]))) (.region [jD 22 .add 14 1,jM 14 22]))))))) (rS [oP 6 (.mov (.c .nils))] (.seq (rS [jI 7 0] (.block 2 (.loop (.seq (rS [jM 23 7,jM 24 3,jB 25 .lss 23 24] (kE 25 2)) (.seq (.block 3 (rS [oP 8 (.mov (.c .nils))] (.seq (rS [jM 28 0,jK 29 1 28,jI 30 0] (.block 4 (.loop (rS [jB 31 .lss 30
 29] (.seq (kE 31 4) (.seq (.block 5 (rS [jX 32 1 28 30,jL 33 32,jM 10 33] (rS [jI 11 2] (.seq (rS [jM 34 7,jM 35 10,jK 36 0 35,jB 37 .lss 34 36] (.cond (.t 37) (.region [jM 38 10,jM 39 7,oP 40 (.idxs (.t 38) (.t 39)),oP 41 (.bin .sub (.t 40) (.c (.int .u8 97))),oP 42 (.conv .i64 (.t 41)),
 jM 11 42]) .skip)) (.region [jM 43 8,jM 44 11,oP 45 (.mk 3 1 [.int .i64 0] [(0,1,.t 44)]),oP 46 (.app 3 1 8 (.t 43) (.t 45)),jM 8 46]))))) (.region [jD 47 .add 30 1,jM 30 47]))))))) (.region [jM 48 6,jM 49 8,jC 50 107 [.t 49],oP 51 (.mk 3 1 [.int .i64 0] [(0,1,.t 50)]),oP 52 (.app 3 1
 8 (.t 48) (.t 51)),jM 6 52])))) (.region [jM 26 7,jD 27 .add 26 1,jM 7 27])))))) (rS [jM 53 6,jM 2 53] .ret)))))⟩
theorem irOk62 : irC Tryz.f62 = some ir62:=by kernel_rfl
def ir63 : BFun:=⟨[.tmp 2],rS [jF 2 false] (rS [jM 3 0,jK 4 0 3,jD 5 .leq 4 40,jM 6 5,oG 7 6 true (.mov (.t 0)),oG 8 6 true (.call (.c (.fn 108 [])) [.t 7,.c (.str ⟨#[97,98]⟩)]),oG 9 6 true (.bin .eql (.t 8) (.c (.str ⟨#[]⟩))),oP 10 (.pick (.t 6) (.t 9) (.c (.bool false))),jM 2 10]
 .ret)⟩
theorem irOk63 : irC Tryz.f63 = some ir63:=by kernel_rfl
def ir66 : BFun:=⟨[.cell 10 (some 4),.tmp 11],rS [jZ 10 77,jF 11 false] (rS [jM 22 0,oP 23 (.build [.int .i64 0,.int .i64 0,.nils,.nils] [(0,1,.t 22)]),jZ 12 77,jW 4 12 23] (rS [oP 24 .mkmap,jM 25 1,oS (.mset 0 (.t 24) (.t 25) (cI 0)),jM 26 24,jM 13 26] (rS [jM 27 1,oP 28 (.mk 3 1
 [.int .i64 0] [(0,1,.t 27)]),jM 14 28] (.seq (rS [jI 15 0] (.block 0 (.loop (.seq (rS [jM 29 15,jM 30 14,jK 31 1 30,jB 32 .lss 29 31] (kE 32 0)) (.seq (.block 1 (rS [jM 35 14,jM 36 15,jX 37 1 35 36,jL 38 37,jM 16 38] (rS [oP 17 (.mov (.c .nils))] (.seq (rS [jI 18 0] (.block 2 (.loop
 (.seq (rS [jM 39 18,jM 40 0,jC 41 94 [.t 40],jB 42 .lss 39 41] (kE 42 2)) (.seq (.block 3 (rS [jM 45 4,jM 46 16,jM 47 18,oP 48 (.call (.t 45) [.t 46,.t 47]),jM 19 48] (rS [jM 50 13,jM 51 19,oP 52 (.look 0 true (.int .i64 0) (.t 50) (.t 51)),jM 49 52,jE 53 0 49,jE 54 1 49,jM 20 53,jM
 21 54] (.seq (rS [jM 55 21,jJ 56 55] (.cond (.t 56) (rS [jM 57 14,jK 58 1 57,jM 20 58] (rS [jM 59 13,jM 60 19,jM 61 20,oS (.mset 0 (.t 59) (.t 60) (.t 61))] (rS [jM 62 14,jM 63 19,oP 64 (.mk 3 1 [.int .i64 0] [(0,1,.t 63)]),oP 65 (.app 3 1 8 (.t 62) (.t 64)),jM 14 65] (rS [jM 66 2,jD
 67 .gtr 66 0,jM 68 67,oG 69 68 true (.mov (.t 14)),oG 70 68 true (.len 1 (.t 69)),oG 71 68 true (.mov (.t 2)),oG 72 68 true (.bin .gtr (.t 70) (.t 71)),oP 73 (.pick (.t 68) (.t 72) (.c (.bool false)))] (.cond (.t 73) (rS [jY 74,jW 4 10 74,jF 11 false] .ret) .skip))))) .skip)) (.region [jM
 75 17,jM 76 20,oP 77 (.mk 3 1 [.int .i64 0] [(0,1,.t 76)]),oP 78 (.app 3 1 8 (.t 75) (.t 77)),jM 17 78]))))) (.region [jM 43 18,jD 44 .add 43 1,jM 18 44])))))) (rS [jA 79 2 12,oP 80 (.load (some 77) none (.t 79)),jM 81 3,jM 82 16,⟨some 83,.call (.t 81) [.t 82],none,[77]⟩,oP 84 (.mk
 4 1 [.bool false] [(0,1,.t 83)]),oP 85 (.app 4 1 1 (.t 80) (.t 84)),jA 86 2 12,jW 1 86 85] (.region [jA 87 3 12,jL 88 87,jM 89 17,oP 90 (.mk 80 1 [.nils] [(0,1,.t 89)]),oP 91 (.app 80 1 24 (.t 88) (.t 90)),jA 92 3 12,jW 1 92 91])))))) (.region [jM 33 15,jD 34 .add 33 1,jM 15
 34])))))) (rS [jQ 93 12,jW 4 10 93,jF 11 true] .ret)))))⟩
theorem irOk66 : irC Tryz.f66 = some ir66:=by kernel_rfl
def ir67 : BFun:=⟨[.tmp 2],rS [jF 2 false] (rS [jM 3 0,jD 4 .eql 3 1,jM 2 4] .ret)⟩
theorem irOk67 : irC Tryz.f67 = some ir67:=by kernel_rfl
def ir68 : BFun:=⟨[.tmp 4],rS [jI 4 0] (rS [jM 5 1,jM 4 5] .ret)⟩
theorem irOk68 : irC Tryz.f68 = some ir68:=by kernel_rfl
def ir69 : BFun:=⟨[.cell 2 (some 4),.tmp 3],rS [jT 1 77 0,jZ 2 25,jI 3 0] (rS [jQ 4 1,jC 5 110 [.t 4],jC 6 111 [.t 5],jE 7 0 6,jE 8 1 6,jW 4 2 7,jM 3 8] .ret)⟩
theorem irOk69 : irC Tryz.f69 = some ir69:=by kernel_rfl
def ir88 : BFun:=⟨[.cell 8 (some 4),.tmp 9],rS [jT 4 25 0,jT 6 25 2,jZ 8 25,jI 9 0] (.seq (.block 0 (rS [jM 11 1,jD 12 .neq 11 0,jM 10 12] (.cond (.t 10) (rS [jY 13,jM 14 1,jW 4 8 13,jM 9 14] .ret) (rS [jM 16 3,jD 17 .neq 16 0,jM 15 17] (.cond (.t 15) (rS [jY 18,jM 19 3,jW 4 8 18,
 jM 9 19] .ret) .skip))))) (rS [jQ 20 4,jQ 21 6,jC 22 137 [.t 20,.t 21],jE 23 0 22,jE 24 1 22,jW 4 8 23,jM 9 24] .ret))⟩
theorem irOk88 : irC Tryz.f88 = some ir88:=by kernel_rfl
def ir94 : BFun:=⟨[.tmp 2],rS [jI 2 0] (rS [jM 3 0,jC 4 148 [.t 3],jD 5 .sub 4 1,jM 2 5] .ret)⟩
theorem irOk94 : irC Tryz.f94 = some ir94:=by kernel_rfl
def ir95 : BFun:=⟨[.tmp 4],rS [oP 4 (.mov (.c .nils))] (rS [oP 5 (.mov (.c .nils))] (.seq (.block 0 (.loop (.seq (rS [jM 6 0,jD 7 .gtr 6 0] (kE 7 0)) (.seq (.block 1 (rS [jM 10 5,jM 11 1,jD 12 .rem 11 3,oP 13 (.mk 3 1 [.int .i64 0] [(0,1,.t 12)]),oP 14 (.app 3 1 8 (.t 10) (.t 13)),jM 5
 14] (.region [jM 15 1,jD 16 .quo 15 3,jM 1 16]))) (.region [jM 8 0,jD 9 .sub 8 1,jM 0 9]))))) (rS [jM 17 5,jM 4 17] .ret)))⟩
theorem irOk95 : irC Tryz.f95 = some ir95:=by kernel_rfl
def ir96 : BFun:=⟨[.cell 10 (some 4),.tmp 11],rS [jZ 10 77,jF 11 false] (rS [jM 22 0,oP 23 (.build [.int .i64 0,.int .i64 0,.nils,.nils] [(0,1,.t 22)]),jZ 12 77,jW 4 12 23] (rS [oP 24 .mkmap,jM 25 1,oS (.mset 0 (.t 24) (.t 25) (cI 0)),jM 26 24,jM 13 26] (rS [jM 27 1,oP 28 (.mk 2 1
 [.int .i64 0] [(0,1,.t 27)]),jM 14 28] (.seq (rS [jI 15 0] (.block 0 (.loop (.seq (rS [jM 29 15,jM 30 14,jK 31 1 30,jB 32 .lss 29 31] (kE 32 0)) (.seq (.block 1 (rS [jM 35 14,jM 36 15,jX 37 1 35 36,jL 38 37,jM 16 38] (rS [oP 17 (.mov (.c .nils))] (.seq (rS [jI 18 0] (.block 2 (.loop
 (.seq (rS [jM 39 18,jM 40 0,jC 41 94 [.t 40],jB 42 .lss 39 41] (kE 42 2)) (.seq (.block 3 (rS [jM 45 4,jM 46 16,jM 47 18,oP 48 (.call (.t 45) [.t 46,.t 47]),jM 19 48] (rS [jM 50 13,jM 51 19,oP 52 (.look 0 true (.int .i64 0) (.t 50) (.t 51)),jM 49 52,jE 53 0 49,jE 54 1 49,jM 20 53,jM
 21 54] (.seq (rS [jM 55 21,jJ 56 55] (.cond (.t 56) (rS [jM 57 14,jK 58 1 57,jM 20 58] (rS [jM 59 13,jM 60 19,jM 61 20,oS (.mset 0 (.t 59) (.t 60) (.t 61))] (rS [jM 62 14,jM 63 19,oP 64 (.mk 2 1 [.int .i64 0] [(0,1,.t 63)]),oP 65 (.app 2 1 8 (.t 62) (.t 64)),jM 14 65] (rS [jM 66 2,jD
 67 .gtr 66 0,jM 68 67,oG 69 68 true (.mov (.t 14)),oG 70 68 true (.len 1 (.t 69)),oG 71 68 true (.mov (.t 2)),oG 72 68 true (.bin .gtr (.t 70) (.t 71)),oP 73 (.pick (.t 68) (.t 72) (.c (.bool false)))] (.cond (.t 73) (rS [jY 74,jW 4 10 74,jF 11 false] .ret) .skip))))) .skip)) (.region [jM
 75 17,jM 76 20,oP 77 (.mk 3 1 [.int .i64 0] [(0,1,.t 76)]),oP 78 (.app 3 1 8 (.t 75) (.t 77)),jM 17 78]))))) (.region [jM 43 18,jD 44 .add 43 1,jM 18 44])))))) (rS [jA 79 2 12,oP 80 (.load (some 77) none (.t 79)),jM 81 3,jM 82 16,⟨some 83,.call (.t 81) [.t 82],none,[77]⟩,oP 84 (.mk
 4 1 [.bool false] [(0,1,.t 83)]),oP 85 (.app 4 1 1 (.t 80) (.t 84)),jA 86 2 12,jW 1 86 85] (.region [jA 87 3 12,jL 88 87,jM 89 17,oP 90 (.mk 80 1 [.nils] [(0,1,.t 89)]),oP 91 (.app 80 1 24 (.t 88) (.t 90)),jA 92 3 12,jW 1 92 91])))))) (.region [jM 33 15,jD 34 .add 33 1,jM 15
 34])))))) (rS [jQ 93 12,jW 4 10 93,jF 11 true] .ret)))))⟩
theorem irOk96 : irC Tryz.f96 = some ir96:=by kernel_rfl
def ir97 : BFun:=⟨[.tmp 3],rS [jF 3 false] (rS [jM 4 0,jD 5 .eql 4 0,jM 6 5,oG 7 6 false (.mov (.t 0)),oG 8 6 false (.bin .gtr (.t 7) (cI 0)),oG 9 6 false (.mov (.t 8)),oG 10 9 true (.mov (.t 0)),oG 11 9 true (.bin .neq (.t 10) (cI 1099511627776)),oG 12 6 false (.pick (.t 9) (.t 11) (.c
 (.bool false))),oG 13 6 false (.mov (.t 12)),oG 14 13 true (.load none none (.t 1)),oG 15 13 true (.bin .eql (.t 14) (cI 2)),oG 16 6 false (.pick (.t 13) (.t 15) (.c (.bool false))),jP 17 6 16 true,jM 3 17] .ret)⟩
theorem irOk97 : irC Tryz.f97 = some ir97:=by kernel_rfl
def ir98 : BFun:=⟨[.tmp 6],rS [jI 6 0] (.seq (rS [jM 8 0,jD 9 .eql 8 1099511627776] (.cond (.t 9) (rS [jI 6 1099511627776] .ret) .skip)) (rS [jM 10 0,jL 11 2,jM 12 1,jX 13 1 11 12,jL 14 13,jB 15 .sub 10 14,jM 7 15] (.seq (rS [jL 16 3,jD 17 .eql 16 1,jM 18 17,oG 19 18 true (.mov (.t
 7)),oG 20 18 true (.bin .rem (.t 19) (cI 2)),oG 21 18 true (.bin .neq (.t 20) (cI 0)),oP 22 (.pick (.t 18) (.t 21) (.c (.bool false)))] (.cond (.t 22) (rS [jI 6 1099511627776] .ret) .skip)) (rS [jM 23 7,oP 24 (.bin .shr (.t 23) (.c (.int .u64 1))),jM 6 24] .ret))))⟩
theorem irOk98 : irC Tryz.f98 = some ir98:=by kernel_rfl
def ir99 : BFun:=⟨[.cell 2 (some 4),.tmp 3],rS [jZ 2 25,jI 3 0] (rS [jM 7 0,oP 8 (.sslice (.c (.str ⟨#[120,121,122]⟩)) none (some (.t 7))),jC 4 25 [],jC 5 41 [.t 4,.c .nils],oP 6 (.build [.int .i64 0,.int .i64 0,.nils,.nils,.nils] [(0,5,.t 5)]),jC 9 149 [.t 6,.t 8],jE 10 0 9,
 jE 11 1 9,jW 4 2 10,jM 3 11] .ret)⟩
theorem irOk99 : irC Tryz.f99 = some ir99:=by kernel_rfl
def ir100 : BFun:=⟨[.tmp 2],rS [jI 2 0] (rS [jM 3 0,jC 4 150 [.t 3],jD 5 .sub 4 1,jM 2 5] .ret)⟩
theorem irOk100 : irC Tryz.f100 = some ir100:=by kernel_rfl
def ir101 : BFun:=⟨[.tmp 4],rS [jI 4 0] (rS [jI 5 0] (.seq (rS [jI 6 0] (.block 0 (.loop (.seq (rS [jM 7 6,jM 8 0,jK 9 1 8,jB 10 .lss 7 9] (kE 10 0)) (.seq (.block 1 (rS [jM 13 1,jM 14 6,jC 15 151 [.t 13,.t 14],jD 16 .eql 15 1] (.cond (.t 16) (.region [jM 17 5,jM 18 0,jM 19 6,jX 20 1
 18 19,jL 21 20,jB 22 .add 17 21,jM 5 22]) .skip))) (.region [jM 11 6,jD 12 .add 11 1,jM 6 12])))))) (rS [jM 23 5,jM 4 23] .ret)))⟩
theorem irOk101 : irC Tryz.f101 = some ir101:=by kernel_rfl
def ir102 : BFun:=⟨[.cell 2 (some 4)],rS [jZ 2 25] (rS [jM 17 0,jC 18 152 [.t 17],jZ 3 25,jW 4 3 18] (rS [jA 19 2 3,jL 20 19,jK 21 1 20,oP 22 (.mksl 2 8 [.int .i64 0] (.t 21) (.t 21)),jM 4 22] (.seq (rS [jI 5 0] (.block 0 (.loop (.seq (rS [jM 23 5,jA 24 2 3,jL 25 24,jK 26 1 25,jB 27
 .lss 23 26] (kE 27 0)) (.seq (.block 1 (rS [jA 30 2 3,jL 31 30,jM 32 5,jX 33 1 31 32,jL 34 33] (.cond (.t 34) (.region [jM 35 4,jM 36 5,jX 37 1 35 36,oS (.store none 1 (.t 37) (cI 1))]) .skip))) (.region [jM 28 5,jD 29 .add 28 1,jM 5 29])))))) (rS [jI 6 0] (.seq (.block 2 (.loop (.block 3
 (rS [jM 39 4,jC 40 153 [.t 3,.t 39],jM 38 40,jE 41 0 38,jE 42 1 38,jM 7 41,jM 8 42] (rS [jM 43 7,jM 4 43] (.seq (rS [jM 44 8,jM 45 6,jB 46 .eql 44 45] (.cond (.t 46) (.exit 2) .skip)) (.region [jM 47 8,jM 6 47]))))))) (rS [jM 48 6,oP 49 (.mksl 2 8 [.int .i64 0] (.t 48) (.t 48)),jM 9
 49] (.seq (rS [jI 10 0] (.block 4 (.loop (.seq (rS [jM 50 10,jM 51 6,jB 52 .lss 50 51] (kE 52 4)) (.seq (.block 5 (.region [jM 55 9,jM 56 10,jX 57 1 55 56,oS (.store none 1 (.t 57) (cI (-1)))])) (.region [jM 53 10,jD 54 .add 53 1,jM 10 54])))))) (rS [jA 58 1 3,jL 59 58,oP 60 (.mk 2 1
 [.int .i64 0] [(0,1,.t 59)]),jM 11 60] (rS [jM 61 9,jM 62 4,jA 63 1 3,jL 64 63,jX 65 1 62 64,jL 66 65,jX 67 1 61 66,oS (.store none 1 (.t 67) (cI 0))] (rS [jM 68 0,jN 69 68,jA 70 0 69,jL 71 70,oP 72 (.build [.int .i64 0,.int .i64 0,.nils,.nils] [(0,1,.t 71)]),jZ 12 25,jW 4 12
 72] (.seq (rS [jI 13 0] (.block 6 (.loop (.seq (rS [jM 73 13,jM 74 11,jK 75 1 74,jB 76 .lss 73 75] (kE 76 6)) (.seq (.block 7 (rS [oP 79 (.mk 2 0 [] []),jM 14 79] (.seq (rS [jI 15 0] (.block 8 (.loop (.seq (rS [jM 80 15,jA 81 3 3,jL 82 81,jM 83 11,jM 84 13,jX 85 1 83 84,jL 86 85,jX 87 1
 82 86,jL 88 87,jK 89 1 88,jB 90 .lss 80 89] (kE 90 8)) (.seq (.block 9 (rS [jA 93 3 3,jL 94 93,jM 95 11,jM 96 13,jX 97 1 95 96,jL 98 97,jX 99 1 94 98,jL 100 99,jM 101 15,jX 102 1 100 101,jL 103 102,jM 16 103] (.seq (rS [jM 104 9,jM 105 4,jM 106 16,jX 107 1 105 106,jL 108 107,jX
 109 1 104 108,jL 110 109,jD 111 .lss 110 0] (.cond (.t 111) (rS [jM 112 9,jM 113 4,jM 114 16,jX 115 1 113 114,jL 116 115,jM 117 11,jK 118 1 117,jX 119 1 112 116,jW 1 119 118] (.region [jM 120 11,jM 121 16,oP 122 (.mk 2 1 [.int .i64 0] [(0,1,.t 121)]),oP 123 (.app 2 1 8 (.t 120) (.t
 122)),jM 11 123])) .skip)) (.region [jM 124 14,jM 125 9,jM 126 4,jM 127 16,jX 128 1 126 127,jL 129 128,jX 130 1 125 129,jL 131 130,oP 132 (.mk 2 1 [.int .i64 0] [(0,1,.t 131)]),oP 133 (.app 2 1 8 (.t 124) (.t 132)),jM 14 133])))) (.region [jM 91 15,jD 92 .add 91 1,jM 15 92]))))))
 (rS [jA 134 2 12,jL 135 134,jA 136 2 3,jL 137 136,jM 138 11,jM 139 13,jX 140 1 138 139,jL 141 140,jX 142 1 137 141,jL 143 142,oP 144 (.mk 4 1 [.bool false] [(0,1,.t 143)]),oP 145 (.app 4 1 1 (.t 135) (.t 144)),jA 146 2 12,jW 1 146 145] (.region [jA 147 3 12,jL 148 147,jM 149 14,
 oP 150 (.mk 36 1 [.nils] [(0,1,.t 149)]),oP 151 (.app 36 1 24 (.t 148) (.t 150)),jA 152 3 12,jW 1 152 151]))))) (.region [jM 77 13,jD 78 .add 77 1,jM 13 78])))))) (rS [jQ 153 12,jW 4 2 153] .ret))))))))))))⟩
theorem irOk102 : irC Tryz.f102 = some ir102:=by kernel_rfl
def ir103 : BFun:=⟨[.cell 2 (some 4),.tmp 3],rS [jT 1 25 0,jZ 2 25,jI 3 0] (.seq (rS [jC 4 116 [.t 1],jJ 5 4] (.cond (.t 5) (rS [jY 6,jW 4 2 6,jI 3 1] .ret) .skip)) (rS [jC 7 102 [.t 1],jC 8 50 [.t 7],jE 9 0 8,jE 10 1 8,jW 4 2 9,jM 3 10] .ret))⟩
theorem irOk103 : irC Tryz.f103 = some ir103:=by kernel_rfl
def ir104 : BFun:=⟨[.cell 4 (some 4),.tmp 5],rS [jT 2 25 0,jT 3 25 1,jZ 4 25,jI 5 0] (.seq (rS [jC 10 116 [.t 2],jJ 11 10,jM 12 11,oG 13 12 false (.call (.c (.fn 116 [])) [.t 3]),oG 14 12 false (.not (.t 13)),jP 15 12 14 true] (.cond (.t 15) (rS [jY 16,jW 4 4 16,jI 5 1] .ret) .skip))
 (.seq (rS [jA 17 0 2,jL 18 17,jA 19 0 3,jL 20 19,jB 21 .add 18 20,jD 22 .gtr 21 3] (.cond (.t 22) (rS [jY 23,jW 4 4 23,jI 5 2] .ret) .skip)) (rS [jC 24 102 [.t 2],jZ 6 25,jW 4 6 24] (.seq (rS [jI 7 0] (.block 0 (.loop (.seq (rS [jM 25 7,jA 26 0 3,jL 27 26,jB 28 .lss 25 27] (kE 28 0))
 (.seq (.block 1 (.region [jA 31 0 6,jL 32 31,jC 33 154 [.t 6,.t 32],jW 4 6 33])) (.region [jM 29 7,jD 30 .add 29 1,jM 7 30])))))) (rS [jC 34 102 [.t 3],jZ 8 25,jW 4 8 34] (.seq (rS [jI 9 0] (.block 2 (.loop (.seq (rS [jM 35 9,jA 36 0 2,jL 37 36,jB 38 .lss 35 37] (kE 38 2)) (.seq (.block
 3 (.region [jC 41 154 [.t 8,cI 0],jW 4 8 41])) (.region [jM 39 9,jD 40 .add 39 1,jM 9 40])))))) (rS [jC 42 155 [.t 6,.t 8,cI 1],jE 43 0 42,jE 44 1 42,jW 4 4 43,jM 5 44] .ret)))))))⟩
theorem irOk104 : irC Tryz.f104 = some ir104:=by kernel_rfl
def ir105 : BFun:=⟨[.cell 6 (some 4),.tmp 7],rS [jZ 6 25,jI 7 0] (.seq (rS [jM 9 0,jM 10 1,jC 11 156 [.t 9,.t 10],jM 8 11] (rS [jM 12 8,jD 13 .neq 12 0] (.cond (.t 13) (rS [jY 14,jM 15 8,jW 4 6 14,jM 7 15] .ret) .skip))) (rS [jM 16 0,jM 17 1,jM 18 2,jC 19 155 [.t 16,.t 17,.t 18],
 jE 20 0 19,jE 21 1 19,jW 4 6 20,jM 7 21] .ret))⟩
theorem irOk105 : irC Tryz.f105 = some ir105:=by kernel_rfl
def ir106 : BFun:=⟨[.tmp 2],rS [oP 2 (.mov (.c .nils))] (.seq (rS [jM 3 0,oP 4 (.isnil false (.t 3))] (.cond (.t 4) (rS [oP 2 (.mov (.c .nils))] .ret) .skip)) (rS [oP 5 (.mk 4 0 [] []),jM 6 0,oP 7 (.app 4 1 1 (.t 5) (.t 6)),jM 2 7] .ret))⟩
theorem irOk106 : irC Tryz.f106 = some ir106:=by kernel_rfl
def ir107 : BFun:=⟨[.tmp 2],rS [jI 2 0] (rS [jI 3 0] (.seq (rS [jM 5 0,jK 6 1 5,jD 7 .sub 6 1,jM 4 7] (.block 0 (.loop (.seq (rS [jM 8 4,jD 9 .geq 8 0] (kE 9 0)) (.seq (.block 1 (.region [jM 12 3,oP 13 (.bin .mul (cI 3) (.t 12)),jM 14 0,jM 15 4,jX 16 1 14 15,jL 17 16,jB 18 .add 13 17,
 jM 3 18])) (.region [jM 10 4,jD 11 .sub 10 1,jM 4 11])))))) (rS [jM 19 3,jM 2 19] .ret)))⟩
theorem irOk107 : irC Tryz.f107 = some ir107:=by kernel_rfl
def ir108 : BFun:=⟨[.tmp 4],rS [oP 4 (.mov (.c (.str ⟨#[]⟩)))] (.seq (rS [jM 7 0,oP 8 (.bin .eql (.t 7) (.c (.str ⟨#[]⟩))),jM 9 8,oG 10 9 false (.mov (.t 1)),oG 11 9 false (.bin .eql (.t 10) (.c (.str ⟨#[]⟩))),jP 12 9 11 true] (.cond (.t 12) (rS [jM 13 0,jM 4 13] .ret) .skip)) (.seq (rS
 [jM 14 1,jK 15 0 14,jD 16 .eql 15 1,jM 17 16,oG 18 17 true (.mov (.t 1)),oG 19 17 true (.idxs (.t 18) (cI 0)),oG 20 17 true (.bin .lss (.t 19) (.c (.int .u8 128))),oP 21 (.pick (.t 17) (.t 20) (.c (.bool false)))] (.cond (.t 21) (rS [jM 22 0,jM 23 1,oP 24 (.idxs (.t 23) (cI 0)),jM 26 1,
 oP 27 (.idxs (.t 26) (cI 0)),jC 25 158 [.t 22,.t 24],jC 28 157 [.t 25,.t 27],jM 4 28] .ret) .skip)) (.seq (rS [jM 30 1,jC 31 159 [.t 30],jM 29 31,jE 32 0 29,jE 33 1 29,oP 5 (.new 143 [.bool false,.bool false,.bool false,.bool false,.bool false,.bool false,.bool false,.bool false,
 .bool false,.bool false,.bool false,.bool false,.bool false,.bool false,.bool false,.bool false,.bool false,.bool false,.bool false,.bool false,.bool false,.bool false,.bool false,.bool false,.bool false,.bool false,.bool false,.bool false,.bool false,.bool false,.bool false,
 .bool false,.bool false,.bool false,.bool false,.bool false,.bool false,.bool false,.bool false,.bool false,.bool false,.bool false,.bool false,.bool false,.bool false,.bool false,.bool false,.bool false,.bool false,.bool false,.bool false,.bool false,.bool false,.bool false,
 .bool false,.bool false,.bool false,.bool false,.bool false,.bool false,.bool false,.bool false,.bool false,.bool false,.bool false,.bool false,.bool false,.bool false,.bool false,.bool false,.bool false,.bool false,.bool false,.bool false,.bool false,.bool false,.bool false,
 .bool false,.bool false,.bool false,.bool false,.bool false,.bool false,.bool false,.bool false,.bool false,.bool false,.bool false,.bool false,.bool false,.bool false,.bool false,.bool false,.bool false,.bool false,.bool false,.bool false,.bool false,.bool false,.bool false,
 .bool false,.bool false,.bool false,.bool false,.bool false,.bool false,.bool false,.bool false,.bool false,.bool false,.bool false,.bool false,.bool false,.bool false,.bool false,.bool false,.bool false,.bool false,.bool false,.bool false,.bool false,.bool false,.bool false,
 .bool false,.bool false,.bool false,.bool false,.bool false,.bool false,.bool false,.bool false,.bool false,.bool false,.bool false,.bool false,.bool false,.bool false,.bool false,.bool false,.bool false,.bool false,.bool false,.bool false,.bool false,.bool false,.bool false,
 .bool false,.bool false,.bool false,.bool false,.bool false,.bool false,.bool false,.bool false,.bool false,.bool false,.bool false,.bool false,.bool false,.bool false,.bool false,.bool false,.bool false,.bool false,.bool false,.bool false,.bool false,.bool false,.bool false,
 .bool false,.bool false,.bool false,.bool false,.bool false,.bool false,.bool false,.bool false,.bool false,.bool false,.bool false,.bool false,.bool false,.bool false,.bool false,.bool false,.bool false,.bool false,.bool false,.bool false,.bool false,.bool false,.bool false,
 .bool false,.bool false,.bool false,.bool false,.bool false,.bool false,.bool false,.bool false,.bool false,.bool false,.bool false,.bool false,.bool false,.bool false,.bool false,.bool false,.bool false,.bool false,.bool false,.bool false,.bool false,.bool false,.bool false,
 .bool false,.bool false,.bool false,.bool false,.bool false,.bool false,.bool false,.bool false,.bool false,.bool false,.bool false,.bool false,.bool false,.bool false,.bool false,.bool false,.bool false,.bool false,.bool false,.bool false,.bool false,.bool false,.bool false,
 .bool false,.bool false,.bool false,.bool false,.bool false,.bool false,.bool false,.bool false,.bool false,.bool false,.bool false,.bool false,.bool false,.bool false,.bool false,.bool false,.bool false,.bool false]),jW 256 5 32,jM 6 33] (rS [jM 34 6] (.cond (.t 34) (rS [jM 35
 0,jC 36 161 [.t 35,.t 5],jC 37 160 [.t 36,.t 5],jM 4 37] .ret) .skip))) (rS [jM 38 0,jM 39 1,jC 40 163 [.t 38,.t 39],jM 41 1,jC 42 162 [.t 40,.t 41],jM 4 42] .ret))))⟩
theorem irOk108 : irC Tryz.f108 = some ir108:=by kernel_rfl
def ir110 : BFun:=⟨[.cell 2 (some 4)],rS [jT 1 77 0,jZ 2 77] (rS [jA 9 0 1,jL 10 9,jC 11 94 [.t 10],oP 12 (.mksl 3 8 [.int .i64 0] (.t 11) (.t 11)),oP 3 (.new 80 [.nils]),jW 1 3 12] (.seq (rS [jL 13 3,jK 14 1 13,jI 15 0] (.block 0 (.loop (rS [jB 16 .lss 15 14] (.seq (kE 16 0) (.seq
 (.block 1 (rS [jM 17 15,jM 4 17] (rS [jA 18 0 1,jL 19 18,jM 20 4,jC 21 95 [.t 19,.t 20],jK 22 1 21,jI 23 0] (.block 2 (.loop (rS [jB 24 .lss 23 22] (.seq (kE 24 2) (.seq (.block 3 (rS [jM 25 23,jX 26 1 21 23,jL 27 26,jM 5 25,jM 6 27] (rS [jM 28 6,jD 29 .eql 28 2] (.cond (.t 29)
 (.region [jL 30 3,jM 31 4,jX 32 1 30 31,jL 33 32,jM 34 5,oP 35 (.bin .shl (cI 1) (.t 34)),jB 36 .or 33 35,jX 37 1 30 31,jW 1 37 36]) .skip)))) (.region [jD 38 .add 23 1,jM 23 38]))))))))) (.region [jD 39 .add 15 1,jM 15 39]))))))) (rS [jA 41 0 1,jL 42 41,jA 43 1 1,jL 44 43,oP 45
 (.build [.int .i64 0,.int .i64 0] [(0,1,.t 44)]),oP 46 (.mkfn 165 [.t 1]),oP 47 (.mkfn 166 [.t 3,.t 1]),jC 48 164 [.t 42,.t 45,cI 0,.t 46,.t 47],jM 40 48,jE 49 0 40,jE 50 1 40,jZ 7 77,jW 4 7 49,jM 8 50] (rS [jQ 51 7,jC 52 167 [.t 51],jW 4 2 52] .ret))))⟩
theorem irOk110 : irC Tryz.f110 = some ir110:=by kernel_rfl
def ir111 : BFun:=⟨[.cell 2 (some 4),.tmp 3],rS [jT 1 77 0,jZ 2 25,jI 3 0] (.seq (rS [jA 7 2 1,jL 8 7,jK 9 1 8,jD 10 .gtr 9 150] (.cond (.t 10) (rS [jY 11,jW 4 2 11,jI 3 3] .ret) .skip)) (rS [jA 12 0 1,oP 13 (.load (some 77) none (.t 12)),jA 14 1 1,oP 15 (.load (some 77) none (.t
 14)),jA 16 2 1,jL 17 16,⟨some 18,.call (.c (.fn 106 [])) [.t 17],none,[77]⟩,oP 19 (.build [.int .i64 0,.int .i64 0,.nils,.nils] [(0,1,.t 13),(1,1,.t 15),(2,1,.t 18)]),jZ 4 25,jW 4 4 19] (.seq (rS [jA 20 3 1,jL 21 20,jK 22 1 21,jI 23 0] (.block 0 (.loop (rS [jB 24 .lss 23 22]
 (.seq (kE 24 0) (.seq (.block 1 (rS [jX 25 1 21 23,jL 26 25,jM 6 26] (.region [jA 27 3 4,oP 28 (.load (some 25) none (.t 27)),jM 29 6,⟨some 30,.call (.c (.fn 168 [])) [.t 29],none,[25]⟩,oP 31 (.mk 36 1 [.nils] [(0,1,.t 30)]),oP 32 (.app 36 1 24 (.t 28) (.t 31)),jA 33 3 4,jW 1 33
 32]))) (.region [jD 34 .add 23 1,jM 23 34]))))))) (rS [jQ 35 4,jW 4 2 35,jI 3 0] .ret))))⟩
theorem irOk111 : irC Tryz.f111 = some ir111:=by kernel_rfl
def ir113 : BFun:=⟨[.cell 2 (some 4)],rS [jT 1 25 0,jZ 2 77] (rS [jQ 3 1,jC 4 60 [.t 3],jC 5 110 [.t 4],jW 4 2 5] .ret)⟩
theorem irOk113 : irC Tryz.f113 = some ir113:=by kernel_rfl
def ir116 : BFun:=⟨[.tmp 2],rS [jF 2 false] (rS [jM 3 0,jN 4 3,jA 5 2 4,jL 6 5,jK 7 1 6,jD 8 .leq 7 150,jM 9 8,oG 10 9 true (.mov (.t 0)),oG 11 9 true (.call (.c (.fn 176 [])) [.t 10]),oP 12 (.pick (.t 9) (.t 11) (.c (.bool false))),jM 2 12] .ret)⟩
theorem irOk116 : irC Tryz.f116 = some ir116:=by kernel_rfl
def ir126 : BFun:=⟨[.cell 4 (some 4),.tmp 5],rS [jT 2 25 0,jT 3 2 1,jZ 4 25,jI 5 0] (.seq (.block 0 (rS [jQ 7 2,jC 8 58 [.t 7],jJ 9 8,jM 6 9] (.cond (.t 6) (rS [jY 10,jW 4 4 10,jI 5 1] .ret) (rS [jL 12 3,jA 13 0 2,jL 14 13,jC 15 45 [.t 12,cI 0,.t 14],jJ 16 15,jM 17 16,oG 18 17
 false (.lea 0 (.t 2)),oG 19 17 false (.load none none (.t 18)),oG 20 17 false (.bin .eql (.t 19) (cI 3)),jP 21 17 20 true,jM 11 21] (.cond (.t 11) (rS [jY 22,jW 4 4 22,jI 5 2] .ret) .skip))))) (rS [jQ 23 2,jA 25 0 2,oP 26 (.load (some 25) none (.t 25)),jD 27 .add 26 1,oP 28 (.mkfn 184
 [.t 3]),⟨some 24,.call (.c (.fn 113 [])) [.t 23],none,[25]⟩,jC 29 183 [.t 24,.t 27,.t 28],jC 30 69 [.t 29],jE 31 0 30,jE 32 1 30,jW 4 4 31,jM 5 32] .ret))⟩
theorem irOk126 : irC Tryz.f126 = some ir126:=by kernel_rfl
def ir137 : BFun:=⟨[.cell 4 (some 4),.tmp 5],rS [jT 2 25 0,jT 3 25 1,jZ 4 25,jI 5 0] (rS [jQ 6 2,jQ 7 3,oP 8 (.call (.c (.fn 188 [])) [.t 6,.t 7,.c (.fn 190 [])]),jE 9 0 8,jE 10 1 8,jW 4 4 9,jM 5 10] .ret)⟩
theorem irOk137 : irC Tryz.f137 = some ir137:=by kernel_rfl
def ir148 : BFun:=⟨[.tmp 2],rS [jI 2 0] (rS [jI 3 1] (.seq (.block 0 (.loop (.seq (rS [jM 4 0,jD 5 .gtr 4 0] (kE 5 0)) (.seq (.block 1 (.region [jM 8 3,jD 9 .mul 8 3,jM 3 9])) (.region [jM 6 0,jD 7 .sub 6 1,jM 0 7]))))) (rS [jM 10 3,jM 2 10] .ret)))⟩
theorem irOk148 : irC Tryz.f148 = some ir148:=by kernel_rfl
def ir149 : BFun:=⟨[.cell 4 (some 4),.tmp 5],rS [jT 2 134 0,jZ 4 25,jI 5 0] (rS [jA 11 0 2,jA 12 0 11,jQ 13 12,jZ 6 25,jW 4 6 13] (rS [jQ 14 6,jZ 7 25,jW 4 7 14] (.seq (rS [jI 8 1] (.block 0 (.loop (.seq (rS [jM 15 8,jM 16 1,jK 17 0 16,jB 18 .lss 15 17] (kE 18 0)) (.seq (.block 1 (rS
 [jQ 22 6,jQ 23 7,jC 24 201 [.t 22,.t 23],jM 21 24,jE 25 0 21,jE 26 1 21,jZ 9 25,jW 4 9 25,jM 10 26] (.seq (rS [jM 27 10,jD 28 .neq 27 0] (.cond (.t 28) (rS [jY 29,jM 30 10,jW 4 4 29,jM 5 30] .ret) .skip)) (.region [jQ 31 9,jW 4 7 31])))) (.region [jM 19 8,jD 20 .add 19 1,jM 8
 20])))))) (rS [jQ 32 7,jW 4 4 32,jI 5 0] .ret))))⟩
theorem irOk149 : irC Tryz.f149 = some ir149:=by kernel_rfl
def ir150 : BFun:=⟨[.tmp 2],rS [jI 2 0] (rS [jI 3 1] (.seq (.block 0 (.loop (.seq (rS [jM 4 0,jD 5 .gtr 4 0] (kE 5 0)) (.seq (.block 1 (.region [jM 8 3,oP 9 (.bin .mul (cI 3) (.t 8)),jM 3 9])) (.region [jM 6 0,jD 7 .sub 6 1,jM 0 7]))))) (rS [jM 10 3,jM 2 10] .ret)))⟩
theorem irOk150 : irC Tryz.f150 = some ir150:=by kernel_rfl
def ir151 : BFun:=⟨[.tmp 4],rS [jI 4 0] (rS [jM 5 0,jM 6 1,jC 7 150 [.t 6],jB 8 .quo 5 7,jD 9 .rem 8 3,jM 4 9] .ret)⟩
theorem irOk151 : irC Tryz.f151 = some ir151:=by kernel_rfl
def ir152 : BFun:=⟨[.cell 2 (some 4)],rS [jZ 2 25] (rS [jM 20 0,jN 21 20,jA 22 2 21,jL 23 22,jK 24 1 23,jM 3 24] (rS [jM 25 0,jN 26 25,jA 27 0 26,jL 28 27,oP 29 (.conv .u64 (.t 28)),oP 30 (.bin .shl (cI 1) (.t 29)),jM 4 30] (rS [jM 31 3,jM 32 4,jB 33 .mul 31 32,oP 34 (.mksl 2 8
 [.int .i64 0] (.t 33) (.t 33)),jM 5 34] (.seq (rS [jI 6 0] (.block 0 (.loop (.seq (rS [jM 35 6,jM 36 5,jK 37 1 36,jB 38 .lss 35 37] (kE 38 0)) (.seq (.block 1 (.region [jM 41 5,jM 42 6,jX 43 1 41 42,oS (.store none 1 (.t 43) (cI (-1)))])) (.region [jM 39 6,jD 40 .add 39 1,jM 6 40]))))))
 (rS [jM 44 0,jN 45 44,jA 46 1 45,jL 47 46,jM 48 4,jB 49 .mul 47 48,oP 50 (.mk 2 1 [.int .i64 0] [(0,1,.t 49)]),jM 7 50] (rS [jM 51 5,jM 52 0,jN 53 52,jA 54 1 53,jL 55 54,jM 56 4,jB 57 .mul 55 56,jX 58 1 51 57,oS (.store none 1 (.t 58) (cI 0))] (rS [jM 59 0,jN 60 59,jA 61 0 60,
 jL 62 61,oP 63 (.build [.int .i64 0,.int .i64 0,.nils,.nils] [(0,1,.t 62)]),jZ 8 25,jW 4 8 63] (.seq (rS [jI 9 0] (.block 2 (.loop (.seq (rS [jM 64 9,jM 65 7,jK 66 1 65,jB 67 .lss 64 66] (kE 67 2)) (.seq (.block 3 (rS [jM 70 7,jM 71 9,jX 72 1 70 71,jL 73 72,jM 74 4,jB 75 .quo 73
 74,jM 10 75] (rS [oP 76 (.mk 2 0 [] []),jM 11 76] (.seq (rS [jI 12 0] (.block 4 (.loop (.seq (rS [jM 77 12,jM 78 0,jN 79 78,jA 80 0 79,jL 81 80,jC 82 100 [.t 81],jB 83 .lss 77 82] (kE 83 4)) (.seq (.block 5 (rS [jM 86 0,jN 87 86,jA 88 0 87,jL 89 88,jM 90 7,jM 91 9,jX 92 1 90 91,jL
 93 92,jM 94 4,jB 95 .rem 93 94,jM 96 12,jC 97 202 [.t 89,.t 95,.t 96],jM 13 97] (.seq (rS [jM 98 13,jD 99 .lss 98 0] (.cond (.t 99) (rS [jM 100 11,oP 101 (.mk 2 1 [.int .i64 0] [(0,1,cI (-1))]),oP 102 (.app 2 1 8 (.t 100) (.t 101)),jM 11 102] (.exit 5)) .skip)) (rS [jM 103 0,jN 104
 103,jA 105 3 104,jL 106 105,jM 107 10,jX 108 1 106 107,jL 109 108,jM 110 12,jX 111 1 109 110,jL 112 111,jM 113 4,jB 114 .mul 112 113,jM 115 13,jB 116 .add 114 115,jM 14 116] (.seq (rS [jM 117 5,jM 118 14,jX 119 1 117 118,jL 120 119,jD 121 .lss 120 0] (.cond (.t 121) (rS [jM 122 5,
 jM 123 14,jM 124 7,jK 125 1 124,jX 126 1 122 123,jW 1 126 125] (.region [jM 127 7,jM 128 14,oP 129 (.mk 2 1 [.int .i64 0] [(0,1,.t 128)]),oP 130 (.app 2 1 8 (.t 127) (.t 129)),jM 7 130])) .skip)) (.region [jM 131 11,jM 132 5,jM 133 14,jX 134 1 132 133,jL 135 134,oP 136 (.mk 2 1
 [.int .i64 0] [(0,1,.t 135)]),oP 137 (.app 2 1 8 (.t 131) (.t 136)),jM 11 137])))))) (.region [jM 84 12,jD 85 .add 84 1,jM 12 85])))))) (rS [jA 138 2 8,jL 139 138,jM 140 0,jN 141 140,jA 142 2 141,jL 143 142,jM 144 10,jX 145 1 143 144,jL 146 145,oP 147 (.mk 4 1 [.bool false] [(0,1,
 .t 146)]),oP 148 (.app 4 1 1 (.t 139) (.t 147)),jA 149 2 8,jW 1 149 148] (.region [jA 150 3 8,jL 151 150,jM 152 11,oP 153 (.mk 36 1 [.nils] [(0,1,.t 152)]),oP 154 (.app 36 1 24 (.t 151) (.t 153)),jA 155 3 8,jW 1 155 154])))))) (.region [jM 68 9,jD 69 .add 68 1,jM 9 69])))))) (rS [jM
 156 7,jK 157 1 156,jM 15 157] (.seq (rS [jI 16 0] (.block 6 (.loop (.seq (rS [jM 158 16,jA 159 3 8,jL 160 159,jK 161 1 160,jB 162 .lss 158 161] (kE 162 6)) (.seq (.block 7 (rS [jI 17 0] (.block 8 (.loop (.seq (rS [jM 165 17,jA 166 3 8,jL 167 166,jM 168 16,jX 169 1 167 168,jL 170 169,jK
 171 1 170,jB 172 .lss 165 171] (kE 172 8)) (.seq (.block 9 (rS [jA 175 3 8,jL 176 175,jM 177 16,jX 178 1 176 177,jL 179 178,jM 180 17,jX 181 1 179 180,jL 182 181,jD 183 .lss 182 0] (.cond (.t 183) (.region [jA 184 3 8,jL 185 184,jM 186 16,jX 187 1 185 186,jL 188 187,jM 189 17,jM 190
 15,jX 191 1 188 189,jW 1 191 190]) .skip))) (.region [jM 173 17,jD 174 .add 173 1,jM 17 174]))))))) (.region [jM 163 16,jD 164 .add 163 1,jM 16 164])))))) (rS [oP 192 (.mk 2 0 [] []),jM 18 192] (.seq (rS [jI 19 0] (.block 10 (.loop (.seq (rS [jM 193 19,jM 194 0,jN 195 194,jA 196 0 195,
 jL 197 196,jC 198 100 [.t 197],jB 199 .lss 193 198] (kE 199 10)) (.seq (.block 11 (.region [jM 202 18,jM 203 15,oP 204 (.mk 2 1 [.int .i64 0] [(0,1,.t 203)]),oP 205 (.app 2 1 8 (.t 202) (.t 204)),jM 18 205])) (.region [jM 200 19,jD 201 .add 200 1,jM 19 201])))))) (rS [jA 206 2 8,jL 207
 206,oP 208 (.mk 4 1 [.bool false] [(0,1,.c (.bool false))]),oP 209 (.app 4 1 1 (.t 207) (.t 208)),jA 210 2 8,jW 1 210 209] (rS [jA 211 3 8,jL 212 211,jM 213 18,oP 214 (.mk 36 1 [.nils] [(0,1,.t 213)]),oP 215 (.app 36 1 24 (.t 212) (.t 214)),jA 216 3 8,jW 1 216 215] (rS [jQ 217 8,jW
 4 2 217] .ret)))))))))))))))⟩
theorem irOk152 : irC Tryz.f152 = some ir152:=by kernel_rfl
def ir153 : BFun:=⟨[.tmp 4,.tmp 5],rS [oP 4 (.mov (.c .nils)),jI 5 0] (rS [jM 11 1,jK 12 1 11,jM 6 12] (rS [jM 13 6,oP 14 (.mksl 2 8 [.int .i64 0] (.t 13) (.t 13)),jM 7 14] (rS [oP 15 (.mk 2 0 [] []),jM 8 15] (.seq (rS [jI 9 0] (.block 0 (.loop (.seq (rS [jM 16 9,jM 17 6,jB 18 .lss 16
 17] (kE 18 0)) (.seq (.block 1 (rS [jM 21 7,jM 22 9,jX 23 1 21 22,oS (.store none 1 (.t 23) (cI (-1)))] (.seq (rS [jI 10 0] (.block 2 (.loop (.seq (rS [jM 24 10,jM 25 8,jK 26 1 25,jB 27 .lss 24 26,jM 28 27,oG 29 28 true (.mov (.t 7)),oG 30 28 true (.mov (.t 9)),oG 31 28 true (.idx 1 (.t
 29) (.t 30)),oG 32 28 true (.load none none (.t 31)),oG 33 28 true (.bin .lss (.t 32) (cI 0)),oP 34 (.pick (.t 28) (.t 33) (.c (.bool false)))] (kE 34 2)) (.seq (.block 3 (rS [jM 37 1,jM 38 8,jM 39 10,jX 40 1 38 39,jL 41 40,jX 42 1 37 41,jL 43 42,jM 44 1,jM 45 9,jX 46 1 44 45,jL 47
 46,jB 48 .eql 43 47,jM 49 48,oG 50 49 true (.mov (.t 0)),oG 51 49 true (.mov (.t 1)),oG 52 49 true (.mov (.t 8)),oG 53 49 true (.mov (.t 10)),oG 54 49 true (.idx 1 (.t 52) (.t 53)),oG 55 49 true (.load none none (.t 54)),oG 56 49 true (.mov (.t 9)),oG 57 49 true (.call (.c (.fn 203 []))
 [.t 50,.t 51,.t 55,.t 56]),oP 58 (.pick (.t 49) (.t 57) (.c (.bool false)))] (.cond (.t 58) (.region [jM 59 7,jM 60 9,jM 61 10,jX 62 1 59 60,jW 1 62 61]) .skip))) (.region [jM 35 10,jD 36 .add 35 1,jM 10 36])))))) (rS [jM 63 7,jM 64 9,jX 65 1 63 64,jL 66 65,jD 67 .lss 66 0] (.cond
 (.t 67) (rS [jM 68 7,jM 69 9,jM 70 8,jK 71 1 70,jX 72 1 68 69,jW 1 72 71] (.region [jM 73 8,jM 74 9,oP 75 (.mk 2 1 [.int .i64 0] [(0,1,.t 74)]),oP 76 (.app 2 1 8 (.t 73) (.t 75)),jM 8 76])) .skip))))) (.region [jM 19 9,jD 20 .add 19 1,jM 9 20])))))) (rS [jM 77 7,jM 78 8,jK 79 1 78,
 jM 4 77,jM 5 79] .ret)))))⟩
theorem irOk153 : irC Tryz.f153 = some ir153:=by kernel_rfl
def ir154 : BFun:=⟨[.cell 4 (some 4)],rS [jZ 4 25] (rS [jM 11 0,jN 12 11,jA 13 0 12,jL 14 13,jD 15 .add 14 1,jM 5 15] (rS [jM 16 5,jM 17 0,jN 18 17,jA 19 1 18,oP 20 (.load (some 25) none (.t 19)),jM 22 0,jN 23 22,jA 24 2 23,jL 25 24,oP 21 (.mk 4 0 [] []),oP 26 (.app 4 1 1 (.t 21)
 (.t 25)),oP 27 (.build [.int .i64 0,.int .i64 0,.nils,.nils] [(0,1,.t 16),(1,1,.t 20),(2,1,.t 26)]),jZ 6 25,jW 4 6 27] (.seq (rS [jI 7 0] (.block 0 (.loop (.seq (rS [jM 28 7,jM 29 0,jN 30 29,jA 31 2 30,jL 32 31,jK 33 1 32,jB 34 .lss 28 33] (kE 34 0)) (.seq (.block 1 (rS [oP 37
 (.mk 2 0 [] []),jM 8 37] (.seq (rS [jI 9 0] (.block 2 (.loop (.seq (rS [jM 38 9,jM 39 5,jC 40 100 [.t 39],jB 41 .lss 38 40] (kE 41 2)) (.seq (.block 3 (rS [jM 44 9,jM 45 5,jM 46 1,jC 47 204 [.t 44,.t 45,.t 46],jM 10 47] (rS [jM 48 10,jM 49 0,jN 50 49,jA 51 0 50,jL 52 51,jC 53 100
 [.t 52],jB 54 .eql 48 53] (.cond (.t 54) (.region [jM 55 8,jM 56 7,oP 57 (.mk 2 1 [.int .i64 0] [(0,1,.t 56)]),oP 58 (.app 2 1 8 (.t 55) (.t 57)),jM 8 58]) (.region [jM 59 8,jM 60 0,jN 61 60,jA 62 3 61,jL 63 62,jM 64 7,jX 65 1 63 64,jL 66 65,jM 67 10,jX 68 1 66 67,jL 69 68,oP 70
 (.mk 2 1 [.int .i64 0] [(0,1,.t 69)]),oP 71 (.app 2 1 8 (.t 59) (.t 70)),jM 8 71]))))) (.region [jM 42 9,jD 43 .add 42 1,jM 9 43])))))) (.region [jA 72 3 6,jL 73 72,jM 74 8,oP 75 (.mk 36 1 [.nils] [(0,1,.t 74)]),oP 76 (.app 36 1 24 (.t 73) (.t 75)),jA 77 3 6,jW 1 77 76])))) (.region
 [jM 35 7,jD 36 .add 35 1,jM 7 36])))))) (rS [jC 78 102 [.t 6],jW 4 4 78] .ret))))⟩
theorem irOk154 : irC Tryz.f154 = some ir154:=by kernel_rfl
def ir155 : BFun:=⟨[.cell 6 (some 4),.tmp 7],rS [jZ 6 25,jI 7 0] (rS [jM 11 0,jC 12 102 [.t 11],jZ 8 25,jW 4 8 12] (rS [jM 13 1,jC 14 102 [.t 13],jZ 9 25,jW 4 9 14] (.seq (rS [jA 15 2 8,jL 16 15,jK 17 1 16,jA 18 2 9,jL 19 18,jK 20 1 19,jB 21 .mul 17 20,jD 22 .gtr 21 1000] (.cond
 (.t 22) (rS [jY 23,jW 4 6 23,jI 7 3] .ret) .skip)) (rS [jM 24 2,jC 25 205 [.t 8,.t 9,.t 24],jZ 10 25,jW 4 10 25] (rS [jC 26 102 [.t 10],jC 27 50 [.t 26],jE 28 0 27,jE 29 1 27,jW 4 6 28,jM 7 29] .ret)))))⟩
theorem irOk155 : irC Tryz.f155 = some ir155:=by kernel_rfl
def ir156 : BFun:=⟨[.tmp 4],rS [jI 4 0] (.seq (rS [jM 5 0,jC 6 116 [.t 5],jJ 7 6,jM 8 7,oG 9 8 false (.mov (.t 1)),oG 10 8 false (.call (.c (.fn 116 [])) [.t 9]),oG 11 8 false (.not (.t 10)),jP 12 8 11 true] (.cond (.t 12) (rS [jI 4 1] .ret) .skip)) (.seq (rS [jM 13 0,jN 14 13,jA 15 0
 14,jL 16 15,jM 17 1,jN 18 17,jA 19 0 18,jL 20 19,jB 21 .neq 16 20] (.cond (.t 21) (rS [jI 4 2] .ret) .skip)) (rS [jI 4 0] .ret)))⟩
theorem irOk156 : irC Tryz.f156 = some ir156:=by kernel_rfl
def ir159 : BFun:=⟨[.cell 2 (some 256),.tmp 3],rS [oP 2 (.new 143 [.bool false,.bool false,.bool false,.bool false,.bool false,.bool false,.bool false,.bool false,.bool false,.bool false,.bool false,.bool false,.bool false,.bool false,.bool false,.bool false,.bool false,.bool
 false,.bool false,.bool false,.bool false,.bool false,.bool false,.bool false,.bool false,.bool false,.bool false,.bool false,.bool false,.bool false,.bool false,.bool false,.bool false,.bool false,.bool false,.bool false,.bool false,.bool false,.bool false,.bool false,.bool
 false,.bool false,.bool false,.bool false,.bool false,.bool false,.bool false,.bool false,.bool false,.bool false,.bool false,.bool false,.bool false,.bool false,.bool false,.bool false,.bool false,.bool false,.bool false,.bool false,.bool false,.bool false,.bool false,.bool
 false,.bool false,.bool false,.bool false,.bool false,.bool false,.bool false,.bool false,.bool false,.bool false,.bool false,.bool false,.bool false,.bool false,.bool false,.bool false,.bool false,.bool false,.bool false,.bool false,.bool false,.bool false,.bool false,.bool
 false,.bool false,.bool false,.bool false,.bool false,.bool false,.bool false,.bool false,.bool false,.bool false,.bool false,.bool false,.bool false,.bool false,.bool false,.bool false,.bool false,.bool false,.bool false,.bool false,.bool false,.bool false,.bool false,.bool
 false,.bool false,.bool false,.bool false,.bool false,.bool false,.bool false,.bool false,.bool false,.bool false,.bool false,.bool false,.bool false,.bool false,.bool false,.bool false,.bool false,.bool false,.bool false,.bool false,.bool false,.bool false,.bool false,.bool
 false,.bool false,.bool false,.bool false,.bool false,.bool false,.bool false,.bool false,.bool false,.bool false,.bool false,.bool false,.bool false,.bool false,.bool false,.bool false,.bool false,.bool false,.bool false,.bool false,.bool false,.bool false,.bool false,.bool
 false,.bool false,.bool false,.bool false,.bool false,.bool false,.bool false,.bool false,.bool false,.bool false,.bool false,.bool false,.bool false,.bool false,.bool false,.bool false,.bool false,.bool false,.bool false,.bool false,.bool false,.bool false,.bool false,.bool
 false,.bool false,.bool false,.bool false,.bool false,.bool false,.bool false,.bool false,.bool false,.bool false,.bool false,.bool false,.bool false,.bool false,.bool false,.bool false,.bool false,.bool false,.bool false,.bool false,.bool false,.bool false,.bool false,.bool
 false,.bool false,.bool false,.bool false,.bool false,.bool false,.bool false,.bool false,.bool false,.bool false,.bool false,.bool false,.bool false,.bool false,.bool false,.bool false,.bool false,.bool false,.bool false,.bool false,.bool false,.bool false,.bool false,.bool
 false,.bool false,.bool false,.bool false,.bool false,.bool false,.bool false,.bool false,.bool false,.bool false,.bool false,.bool false,.bool false,.bool false,.bool false,.bool false,.bool false,.bool false,.bool false,.bool false,.bool false,.bool false,.bool false,.bool
 false,.bool false,.bool false,.bool false,.bool false,.bool false,.bool false,.bool false,.bool false]),jF 3 false] (.seq (rS [jI 4 0] (.block 0 (.loop (.seq (rS [jM 6 4,jM 7 0,jK 8 0 7,jB 9 .lss 6 8] (kE 9 0)) (.seq (.block 1 (rS [jM 12 0,jM 13 4,oP 14 (.idxs (.t 12) (.t 13)),jM 5
 14] (.seq (rS [jM 15 5,oP 16 (.bin .geq (.t 15) (.c (.int .u8 128)))] (.cond (.t 16) (rS [oP 17 (.load none (some 256) (.t 2)),jW 256 2 17,jF 3 false] .ret) .skip)) (.region [jM 18 5,oP 19 (.idxa 256 1 (.t 2) (.t 18)),oS (.store none 1 (.t 19) (.c (.bool true)))])))) (.region [jM 10 4,jD 11
 .add 10 1,jM 4 11])))))) (rS [oP 20 (.load none (some 256) (.t 2)),jW 256 2 20,jF 3 true] .ret))⟩
theorem irOk159 : irC Tryz.f159 = some ir159:=by kernel_rfl
def ir160 : BFun:=⟨[.tmp 4],rS [oP 4 (.mov (.c (.str ⟨#[]⟩)))] (.seq (.block 0 (.loop (.seq (rS [jM 5 0,jK 6 0 5,jD 7 .gtr 6 0] (kE 7 0)) (.block 1 (.seq (rS [jM 8 1,jM 9 0,oP 10 (.idxs (.t 9) (cI 0)),jC 11 206 [.t 8,.t 10],jJ 12 11] (.cond (.t 12) (.exit 0) .skip)) (.region [jM 13 0,oP
 14 (.sslice (.t 13) (some (cI 1)) none),jM 0 14])))))) (rS [jM 15 0,jM 4 15] .ret))⟩
theorem irOk160 : irC Tryz.f160 = some ir160:=by kernel_rfl
def ir161 : BFun:=⟨[.tmp 4],rS [oP 4 (.mov (.c (.str ⟨#[]⟩)))] (.seq (.block 0 (.loop (.seq (rS [jM 5 0,jK 6 0 5,jD 7 .gtr 6 0] (kE 7 0)) (.block 1 (.seq (rS [jM 8 1,jM 9 0,jM 10 0,jK 11 0 10,jD 12 .sub 11 1,oP 13 (.idxs (.t 9) (.t 12)),jC 14 206 [.t 8,.t 13],jJ 15 14] (.cond (.t 15)
 (.exit 0) .skip)) (.region [jM 16 0,jM 17 0,jK 18 0 17,jD 19 .sub 18 1,oP 20 (.sslice (.t 16) none (some (.t 19))),jM 0 20])))))) (rS [jM 21 0,jM 4 21] .ret))⟩
theorem irOk161 : irC Tryz.f161 = some ir161:=by kernel_rfl
def ir164 : BFun:=⟨[.cell 10 (some 4),.tmp 11],rS [jT 6 150 1,jZ 10 77,jF 11 false] (rS [jM 22 0,oP 23 (.build [.int .i64 0,.int .i64 0,.nils,.nils] [(0,1,.t 22)]),jZ 12 77,jW 4 12 23] (rS [oP 24 .mkmap,oP 25 (.load none (some 2) (.t 6)),oS (.mset 5 (.t 24) (.t 25) (cI 0)),jM 26
 24,jM 13 26] (rS [oP 27 (.load none (some 2) (.t 6)),oP 28 (.mk 150 1 [.int .i64 0,.int .i64 0] [(0,2,.t 27)]),jM 14 28] (.seq (rS [jI 15 0] (.block 0 (.loop (.seq (rS [jM 29 15,jM 30 14,jK 31 1 30,jB 32 .lss 29 31] (kE 32 0)) (.seq (.block 1 (rS [jM 35 14,jM 36 15,jX 37 2 35 36,oP 38
 (.load none (some 2) (.t 37)),oP 16 (.new 150 [.int .i64 0,.int .i64 0]),jW 2 16 38] (rS [oP 17 (.mov (.c .nils))] (.seq (rS [jI 18 0] (.block 2 (.loop (.seq (rS [jM 39 18,jM 40 0,jC 41 94 [.t 40],jB 42 .lss 39 41] (kE 42 2)) (.seq (.block 3 (rS [jM 45 4,oP 46 (.load none (some 2) (.t 16)),
 jM 47 18,oP 48 (.call (.t 45) [.t 46,.t 47]),oP 19 (.new 150 [.int .i64 0,.int .i64 0]),jW 2 19 48] (rS [jM 50 13,oP 51 (.load none (some 2) (.t 19)),oP 52 (.look 5 true (.int .i64 0) (.t 50) (.t 51)),jM 49 52,jE 53 0 49,jE 54 1 49,jM 20 53,jM 21 54] (.seq (rS [jM 55 21,jJ 56 55]
 (.cond (.t 56) (rS [jM 57 14,jK 58 1 57,jM 20 58] (rS [jM 59 13,oP 60 (.load none (some 2) (.t 19)),jM 61 20,oS (.mset 5 (.t 59) (.t 60) (.t 61))] (rS [jM 62 14,oP 63 (.load none (some 2) (.t 19)),oP 64 (.mk 150 1 [.int .i64 0,.int .i64 0] [(0,2,.t 63)]),oP 65 (.app 150 2 16 (.t 62) (.t
 64)),jM 14 65] (rS [jM 66 2,jD 67 .gtr 66 0,jM 68 67,oG 69 68 true (.mov (.t 14)),oG 70 68 true (.len 1 (.t 69)),oG 71 68 true (.mov (.t 2)),oG 72 68 true (.bin .gtr (.t 70) (.t 71)),oP 73 (.pick (.t 68) (.t 72) (.c (.bool false)))] (.cond (.t 73) (rS [jY 74,jW 4 10 74,jF 11 false] .ret)
 .skip))))) .skip)) (.region [jM 75 17,jM 76 20,oP 77 (.mk 3 1 [.int .i64 0] [(0,1,.t 76)]),oP 78 (.app 3 1 8 (.t 75) (.t 77)),jM 17 78]))))) (.region [jM 43 18,jD 44 .add 43 1,jM 18 44])))))) (rS [jA 79 2 12,oP 80 (.load (some 77) none (.t 79)),jM 81 3,oP 82 (.load none (some 2) (.t
 16)),⟨some 83,.call (.t 81) [.t 82],none,[77]⟩,oP 84 (.mk 4 1 [.bool false] [(0,1,.t 83)]),oP 85 (.app 4 1 1 (.t 80) (.t 84)),jA 86 2 12,jW 1 86 85] (.region [jA 87 3 12,jL 88 87,jM 89 17,oP 90 (.mk 80 1 [.nils] [(0,1,.t 89)]),oP 91 (.app 80 1 24 (.t 88) (.t 90)),jA 92 3 12,jW 1
 92 91])))))) (.region [jM 33 15,jD 34 .add 33 1,jM 15 34])))))) (rS [jQ 93 12,jW 4 10 93,jF 11 true] .ret)))))⟩
theorem irOk164 : irC Tryz.f164 = some ir164:=by kernel_rfl
def ir165 : BFun:=⟨[.tmp 3],rS [jT 2 150 0,jF 3 false] (rS [jA 4 1 2,jL 5 4,jD 6 .geq 5 0,jM 7 6,oG 8 7 true (.lea 2 (.t 1)),oG 9 7 true (.load none none (.t 8)),oG 10 7 true (.lea 0 (.t 2)),oG 11 7 true (.load none none (.t 10)),oG 12 7 true (.idx 1 (.t 9) (.t 11)),oG 13 7 true (.load
 none none (.t 12)),oP 14 (.pick (.t 7) (.t 13) (.c (.bool false))),jM 3 14] .ret)⟩
theorem irOk165 : irC Tryz.f165 = some ir165:=by kernel_rfl
def ir166 : BFun:=⟨[.cell 6 (some 2)],rS [jT 4 150 0,oP 6 (.new 150 [.int .i64 0,.int .i64 0])] (.seq (rS [jA 7 1 4,jL 8 7,jD 9 .lss 8 0,jM 10 9,oG 11 10 false (.lea 1 (.t 4)),oG 12 10 false (.load none none (.t 11)),oG 13 10 false (.load none none (.t 2)),oG 14 10 false (.mov (.t 1)),
 oG 15 10 false (.idx 1 (.t 13) (.t 14)),oG 16 10 false (.load none none (.t 15)),oG 17 10 false (.bin .andNot (.t 12) (.t 16)),oG 18 10 false (.bin .neq (.t 17) (cI 0)),jP 19 10 18 true] (.cond (.t 19) (rS [oP 20 (.build [.int .i64 0,.int .i64 0] [(1,1,cI (-1))]),jW 2 6 20] .ret) .skip))
 (rS [jA 21 3 3,jL 22 21,jA 23 0 4,jL 24 23,jX 25 1 22 24,jL 26 25,jM 27 1,jX 28 1 26 27,jL 29 28,jL 30 2,jM 31 1,jX 32 1 30 31,jL 33 32,oP 34 (.build [.int .i64 0,.int .i64 0] [(0,1,.t 29),(1,1,.t 33)]),jW 2 6 34] .ret))⟩
theorem irOk166 : irC Tryz.f166 = some ir166:=by kernel_rfl
def ir167 : BFun:=⟨[.cell 2 (some 4)],rS [jT 1 77 0,jZ 2 77] (rS [jA 21 2 1,jL 22 21,jK 23 1 22,oP 24 (.mksl 3 8 [.int .i64 0] (.t 23) (.t 23)),oP 3 (.new 80 [.nils]),jW 1 3 24] (.seq (rS [jA 25 2 1,jL 26 25,jK 27 1 26,jI 28 0] (.block 0 (.loop (rS [jB 29 .lss 28 27] (.seq (kE 29 0)
 (.seq (.block 1 (rS [jM 30 28,jX 31 1 26 28,jL 32 31,jM 4 30,jM 5 32] (rS [jM 33 5] (.cond (.t 33) (.region [jL 34 3,jM 35 4,jX 36 1 34 35,oS (.store none 1 (.t 36) (cI 1))]) .skip)))) (.region [jD 37 .add 28 1,jM 28 37]))))))) (.seq (rS [jI 6 0] (.block 2 (.loop (.block 3 (rS [oP 38
 .mkmap,jM 7 38] (rS [jL 39 3,jK 40 1 39,oP 41 (.mksl 3 8 [.int .i64 0] (.t 40) (.t 40)),jM 8 41] (.seq (rS [jA 42 3 1,jL 43 42,jK 44 1 43,jI 45 0] (.block 4 (.loop (rS [jB 46 .lss 45 44] (.seq (kE 46 4) (.seq (.block 5 (rS [jM 47 45,jX 48 1 43 45,jL 49 48,jM 9 47,jM 10 49] (rS [jL 50 3,
 jM 51 9,jX 52 1 50 51,jL 53 52,jC 54 210 [.t 53],jM 11 54] (.seq (rS [jM 55 10,jK 56 1 55,jI 57 0] (.block 6 (.loop (rS [jB 58 .lss 57 56] (.seq (kE 58 6) (.seq (.block 7 (rS [jX 59 1 55 57,jL 60 59,jM 13 60] (.region [jM 61 11,jL 62 3,jM 63 13,jX 64 1 62 63,jL 65 64,jC 66 210 [.t
 65],oP 67 (.bin .add (.c (.str ⟨#[44]⟩)) (.t 66)),jB 68 .add 61 67,jM 11 68]))) (.region [jD 69 .add 57 1,jM 57 69]))))))) (rS [jM 71 7,jM 72 11,oP 73 (.look 1 true (.int .i64 0) (.t 71) (.t 72)),jM 70 73,jE 74 0 70,jE 75 1 70,jM 14 74,jM 15 75] (.seq (rS [jM 76 15,jJ 77 76] (.cond (.t
 77) (rS [jM 78 7,jK 79 2 78,jM 14 79] (.region [jM 80 7,jM 81 11,jM 82 14,oS (.mset 1 (.t 80) (.t 81) (.t 82))])) .skip)) (.region [jM 83 8,jM 84 9,jM 85 14,jX 86 1 83 84,jW 1 86 85]))))))) (.region [jD 87 .add 45 1,jM 45 87]))))))) (rS [jM 88 8,jW 1 3 88] (.seq (rS [jM 89 7,jK 90 2
 89,jM 91 6,jB 92 .eql 90 91] (.cond (.t 92) (.exit 2) .skip)) (.region [jM 93 7,jK 94 2 93,jM 6 94])))))))))) (rS [jL 95 3,jK 96 1 95,oP 97 (.mksl 3 8 [.int .i64 0] (.t 96) (.t 96)),oP 16 (.new 80 [.nils]),jW 1 16 97] (.seq (rS [jL 98 3,jK 99 1 98,jI 100 0] (.block 8 (.loop (rS [jB 101
 .lss 100 99] (.seq (kE 101 8) (.seq (.block 9 (rS [jM 102 100,jX 103 1 98 100,jL 104 103,jM 17 102,jM 18 104] (.region [jL 105 16,jM 106 18,jM 107 17,jX 108 1 105 106,jW 1 108 107]))) (.region [jD 109 .add 100 1,jM 100 109]))))))) (rS [jA 111 0 1,jL 112 111,jL 113 3,jA 114 1 1,jL 115
 114,jX 116 1 113 115,jL 117 116,oP 118 (.mkfn 211 [.t 1,.t 16]),oP 119 (.mkfn 212 [.t 3,.t 1,.t 16]),jC 120 66 [.t 112,.t 117,cI 0,.t 118,.t 119],jM 110 120,jE 121 0 110,jE 122 1 110,jZ 19 77,jW 4 19 121,jM 20 122] (rS [jQ 123 19,jW 4 2 123] .ret)))))))⟩
theorem irOk167 : irC Tryz.f167 = some ir167:=by kernel_rfl
def ir168 : BFun:=⟨[.tmp 2],rS [oP 2 (.mov (.c .nils))] (rS [oP 3 (.mov (.c .nils))] (.seq (rS [jM 6 0,jK 7 1 6,jI 8 0] (.block 0 (.loop (rS [jB 9 .lss 8 7] (.seq (kE 9 0) (.seq (.block 1 (rS [jX 10 1 6 8,jL 11 10,jM 5 11] (.region [jM 12 3,jM 13 5,oP 14 (.mk 2 1 [.int .i64 0] [(0,1,.t
 13)]),oP 15 (.app 2 1 8 (.t 12) (.t 14)),jM 3 15]))) (.region [jD 16 .add 8 1,jM 8 16]))))))) (rS [jM 17 3,jM 2 17] .ret)))⟩
theorem irOk168 : irC Tryz.f168 = some ir168:=by kernel_rfl
def ir176 : BFun:=⟨[.tmp 2],rS [jF 2 false] (rS [jM 6 0,jN 7 6,jA 8 2 7,jL 9 8,jK 10 1 9,jM 3 10] (.seq (rS [jM 11 0,jN 12 11,jA 13 0 12,jL 14 13,jC 15 48 [.t 14,cI 1,cI 3],jJ 16 15,jM 17 16,oG 18 17 false (.mov (.t 3)),oG 19 17 false (.bin .lss (.t 18) (cI 1)),jP 20 17 19 true,
 jM 21 20,oG 22 21 false (.mov (.t 0)),oG 23 21 false (.nilck (.t 22)),oG 24 21 false (.lea 1 (.t 23)),oG 25 21 false (.load none none (.t 24)),oG 26 21 false (.mov (.t 3)),oG 27 21 false (.bin .sub (.t 26) (cI 1)),oG 28 21 false (.call (.c (.fn 48 [])) [.t 25,cI 0,.t 27]),oG 29 21 false
 (.not (.t 28)),jP 30 21 29 true,jM 31 30,oG 32 31 false (.mov (.t 0)),oG 33 31 false (.nilck (.t 32)),oG 34 31 false (.lea 3 (.t 33)),oG 35 31 false (.load none none (.t 34)),oG 36 31 false (.len 1 (.t 35)),oG 37 31 false (.mov (.t 3)),oG 38 31 false (.bin .neq (.t 36) (.t 37)),jP 39 31
 38 true] (.cond (.t 39) (rS [jF 2 false] .ret) .skip)) (.seq (rS [jI 4 0] (.block 0 (.loop (.seq (rS [jM 40 4,jM 41 0,jN 42 41,jA 43 3 42,jL 44 43,jK 45 1 44,jB 46 .lss 40 45] (kE 46 0)) (.seq (.block 1 (.seq (rS [jM 49 0,jN 50 49,jA 51 3 50,oP 52 (.load (some 25) none (.t 51)),jM 53 4,
 jX 54 1 52 53,oP 55 (.load (some 36) none (.t 54)),jK 56 1 55,jM 57 0,jN 58 57,jA 59 0 58,jL 60 59,⟨some 61,.call (.c (.fn 100 [])) [.t 60],none,[25,36]⟩,jB 62 .neq 56 61] (.cond (.t 62) (rS [jF 2 false] .ret) .skip)) (rS [jI 5 0] (.block 2 (.loop (.seq (rS [jM 63 5,jM 64 0,jN 65 64,
 jA 66 3 65,jL 67 66,jM 68 4,jX 69 1 67 68,jL 70 69,jK 71 1 70,jB 72 .lss 63 71] (kE 72 2)) (.seq (.block 3 (rS [jM 75 0,jN 76 75,jA 77 3 76,jL 78 77,jM 79 4,jX 80 1 78 79,jL 81 80,jM 82 5,jX 83 1 81 82,jL 84 83,jM 85 3,jD 86 .sub 85 1,jC 87 48 [.t 84,cI 0,.t 86],jJ 88 87]
 (.cond (.t 88) (rS [jF 2 false] .ret) .skip))) (.region [jM 73 5,jD 74 .add 73 1,jM 5 74])))))))) (.region [jM 47 4,jD 48 .add 47 1,jM 4 48])))))) (rS [jF 2 true] .ret))))⟩
theorem irOk176 : irC Tryz.f176 = some ir176:=by kernel_rfl
def ir183 : BFun:=⟨[.cell 6 (some 4)],rS [jT 3 77 0,jZ 6 77] (rS [jM 15 1,jC 16 94 [.t 15],oP 17 (.mksl 3 8 [.int .i64 0] (.t 16) (.t 16)),jM 7 17] (.seq (rS [jM 18 7,jK 19 1 18,jI 20 0] (.block 0 (.loop (rS [jB 21 .lss 20 19] (.seq (kE 21 0) (.seq (.block 1 (rS [jM 22 20,jM 8 22]
 (.region [jM 23 7,jM 24 8,jM 25 2,jM 26 1,jM 27 8,jC 28 95 [.t 26,.t 27],oP 29 (.call (.t 25) [.t 28]),jC 30 107 [.t 29],jX 31 1 23 24,jW 1 31 30]))) (.region [jD 32 .add 20 1,jM 20 32]))))))) (rS [jM 33 1,jA 34 1 3,oP 35 (.load (some 77) none (.t 34)),jA 36 2 3,jL 37 36,⟨some 38,
 .call (.c (.fn 106 [])) [.t 37],none,[77]⟩,oP 39 (.build [.int .i64 0,.int .i64 0,.nils,.nils] [(0,1,.t 33),(1,1,.t 35),(2,1,.t 38)]),jZ 9 77,jW 4 9 39] (.seq (rS [jA 40 2 3,jL 41 40,jK 42 1 41,jI 43 0] (.block 2 (.loop (rS [jB 44 .lss 43 42] (.seq (kE 44 2) (.seq (.block 3 (rS
 [jM 45 43,jM 10 45] (rS [oP 11 (.mov (.c .nils))] (.seq (rS [jM 46 7,jK 47 1 46,jI 48 0] (.block 4 (.loop (rS [jB 49 .lss 48 47] (.seq (kE 49 4) (.seq (.block 5 (rS [jX 50 1 46 48,jL 51 50,jM 13 51] (rS [jM 52 10,jM 14 52] (.seq (rS [jM 53 13,jA 54 0 3,jL 55 54,jC 56 94 [.t 55],jB 57
 .lss 53 56] (.cond (.t 57) (.region [jA 58 3 3,jL 59 58,jM 60 10,jX 61 1 59 60,jL 62 61,jM 63 13,jX 64 1 62 63,jL 65 64,jM 14 65]) .skip)) (.region [jM 66 11,jM 67 14,oP 68 (.mk 3 1 [.int .i64 0] [(0,1,.t 67)]),oP 69 (.app 3 1 8 (.t 66) (.t 68)),jM 11 69]))))) (.region [jD 70 .add 48
 1,jM 48 70]))))))) (.region [jA 71 3 9,jL 72 71,jM 73 11,oP 74 (.mk 80 1 [.nils] [(0,1,.t 73)]),oP 75 (.app 80 1 24 (.t 72) (.t 74)),jA 76 3 9,jW 1 76 75]))))) (.region [jD 77 .add 43 1,jM 43 77]))))))) (rS [jQ 78 9,jW 4 6 78] .ret)))))⟩
theorem irOk183 : irC Tryz.f183 = some ir183:=by kernel_rfl
def ir184 : BFun:=⟨[.tmp 3],rS [oP 3 (.mov (.c .nils))] (rS [jM 4 0,jL 5 1,jL 6 1,jD 7 .add 6 1,jC 8 185 [.t 4,.t 5,.t 7],jM 3 8] .ret)⟩
theorem irOk184 : irC Tryz.f184 = some ir184:=by kernel_rfl
def ir188 : BFun:=⟨[.cell 6 (some 4),.tmp 7],rS [jT 3 25 0,jT 4 25 1,jZ 6 25,jI 7 0] (.seq (rS [jQ 11 3,jQ 12 4,jC 13 218 [.t 11,.t 12],jM 8 13] (rS [jM 14 8,jD 15 .neq 14 0] (.cond (.t 15) (rS [jY 16,jM 17 8,jW 4 6 16,jM 7 17] .ret) .skip))) (rS [jQ 18 3,oP 20 (.load (some 25)
 (some 4) (.t 4)),⟨some 19,.call (.c (.fn 113 [])) [.t 18],none,[25]⟩,jC 21 113 [.t 20],jZ 9 77,jZ 10 77,jW 4 9 19,jW 4 10 21] (.seq (rS [jA 22 2 9,jL 23 22,jK 24 1 23,jA 25 2 10,jL 26 25,jK 27 1 26,jB 28 .mul 24 27,jD 29 .gtr 28 1000] (.cond (.t 29) (rS [jY 30,jW 4 6 30,jI 7 3]
 .ret) .skip)) (rS [jQ 31 9,jQ 32 10,jM 33 2,jC 34 219 [.t 31,.t 32,.t 33],jC 35 69 [.t 34],jE 36 0 35,jE 37 1 35,jW 4 6 36,jM 7 37] .ret))))⟩
theorem irOk188 : irC Tryz.f188 = some ir188:=by kernel_rfl
def ir190 : BFun:=⟨[.tmp 4],rS [jF 4 false] (rS [jM 5 0,jM 6 5,oG 7 6 true (.mov (.t 1)),oP 8 (.pick (.t 6) (.t 7) (.c (.bool false))),jM 4 8] .ret)⟩
theorem irOk190 : irC Tryz.f190 = some ir190:=by kernel_rfl
def ir201 : BFun:=⟨[.cell 4 (some 4),.tmp 5],rS [jT 2 25 0,jT 3 25 1,jZ 4 25,jI 5 0] (.seq (.block 0 (rS [jQ 15 2,jC 16 58 [.t 15],jJ 17 16,jM 18 17,oG 19 18 false (.load none (some 4) (.t 3)),oG 20 18 false (.call (.c (.fn 58 [])) [.t 19]),oG 21 18 false (.not (.t 20)),jP 22 18 21
 true,jM 14 22] (.cond (.t 14) (rS [jY 23,jW 4 4 23,jI 5 1] .ret) (rS [jA 25 0 2,jL 26 25,jA 27 0 3,jL 28 27,jB 29 .add 26 28,jD 30 .gtr 29 3,jM 24 30] (.cond (.t 24) (rS [jY 31,jW 4 4 31,jI 5 2] .ret) .skip))))) (rS [oP 6 (.mov (.c .nils)),oP 7 (.mov (.c .nils))] (.seq (rS [jI 8 0]
 (.block 1 (.loop (.seq (rS [jM 32 8,jA 33 0 3,jL 34 33,jB 35 .lss 32 34] (kE 35 1)) (.seq (.block 2 (.region [jM 38 6,jA 39 0 2,jL 40 39,jM 41 8,jB 42 .add 40 41,oP 43 (.mk 2 1 [.int .i64 0] [(0,1,.t 42)]),oP 44 (.app 2 1 8 (.t 38) (.t 43)),jM 6 44])) (.region [jM 36 8,jD 37 .add 36
 1,jM 8 37])))))) (.seq (rS [jI 9 0] (.block 3 (.loop (.seq (rS [jM 45 9,jA 46 0 2,jL 47 46,jB 48 .lss 45 47] (kE 48 3)) (.seq (.block 4 (.region [jM 51 7,oP 52 (.mk 2 1 [.int .i64 0] [(0,1,cI 0)]),oP 53 (.app 2 1 8 (.t 51) (.t 52)),jM 7 53])) (.region [jM 49 9,jD 50 .add 49 1,jM 9
 50])))))) (rS [jQ 55 2,jM 56 6,jC 57 234 [.t 55,.t 56],jM 54 57,jE 58 0 54,jE 59 1 54,jZ 10 25,jW 4 10 58,jM 11 59] (rS [jQ 61 3,jM 62 7,jC 63 234 [.t 61,.t 62],jM 60 63,jE 64 0 60,jE 65 1 60,jZ 12 25,jW 4 12 64,jM 13 65] (rS [jQ 66 10,jM 67 11,jQ 68 12,jM 69 13,jC 70 88 [.t
 66,.t 67,.t 68,.t 69],jE 71 0 70,jE 72 1 70,jW 4 4 71,jM 5 72] .ret)))))))⟩
theorem irOk201 : irC Tryz.f201 = some ir201:=by kernel_rfl
def ir202 : BFun:=⟨[.tmp 6],rS [jI 6 0] (.seq (rS [jI 7 0] (.block 0 (.loop (.seq (rS [jM 9 7,jM 10 0,jB 11 .lss 9 10] (kE 11 0)) (.seq (.block 1 (rS [jM 14 2,jM 15 7,jC 16 151 [.t 14,.t 15],jD 17 .eql 16 2,jM 8 17] (.seq (rS [jM 18 8,jJ 19 18,jM 20 19,oG 21 20 true (.mov (.t 1)),oG
 22 20 true (.mov (.t 7)),oG 23 20 true (.conv .u64 (.t 22)),oG 24 20 true (.bin .shr (.t 21) (.t 23)),oG 25 20 true (.bin .and (.t 24) (cI 1)),oG 26 20 true (.bin .eql (.t 25) (cI 1)),oP 27 (.pick (.t 20) (.t 26) (.c (.bool false)))] (.cond (.t 27) (rS [jI 6 (-1)] .ret) .skip)) (rS [jM 28 8]
 (.cond (.t 28) (.region [jM 29 1,jM 30 7,oP 31 (.conv .u64 (.t 30)),oP 32 (.bin .shl (cI 1) (.t 31)),jB 33 .or 29 32,jM 1 33]) .skip))))) (.region [jM 12 7,jD 13 .add 12 1,jM 7 13])))))) (rS [jM 34 1,jM 6 34] .ret))⟩
theorem irOk202 : irC Tryz.f202 = some ir202:=by kernel_rfl
def ir203 : BFun:=⟨[.tmp 8],rS [jF 8 false] (.seq (rS [jI 9 0] (.block 0 (.loop (.seq (rS [jM 10 9,jM 11 0,jN 12 11,jA 13 3 12,jL 14 13,jM 15 2,jX 16 1 14 15,jL 17 16,jK 18 1 17,jB 19 .lss 10 18] (kE 19 0)) (.seq (.block 1 (rS [jM 22 1,jM 23 0,jN 24 23,jA 25 3 24,jL 26 25,jM 27 2,
 jX 28 1 26 27,jL 29 28,jM 30 9,jX 31 1 29 30,jL 32 31,jX 33 1 22 32,jL 34 33,jM 35 1,jM 36 0,jN 37 36,jA 38 3 37,jL 39 38,jM 40 3,jX 41 1 39 40,jL 42 41,jM 43 9,jX 44 1 42 43,jL 45 44,jX 46 1 35 45,jL 47 46,jB 48 .neq 34 47] (.cond (.t 48) (rS [jF 8 false] .ret) .skip)))
 (.region [jM 20 9,jD 21 .add 20 1,jM 9 21])))))) (rS [jF 8 true] .ret))⟩
theorem irOk203 : irC Tryz.f203 = some ir203:=by kernel_rfl
def ir204 : BFun:=⟨[.tmp 6],rS [jI 6 0] (rS [jI 7 0] (rS [jI 8 0] (.seq (rS [jI 9 0] (.block 0 (.loop (.seq (rS [jM 10 9,jM 11 1,jB 12 .lss 10 11] (kE 12 0)) (.seq (.block 1 (rS [jM 15 9,jM 16 2,jB 17 .neq 15 16] (.cond (.t 17) (rS [jM 18 7,jM 19 0,jM 20 9,jC 21 151 [.t 19,.t 20],jM 22
 8,jC 23 150 [.t 22],jB 24 .mul 21 23,jB 25 .add 18 24,jM 7 25] (.region [jM 26 8,jD 27 .add 26 1,jM 8 27])) .skip))) (.region [jM 13 9,jD 14 .add 13 1,jM 9 14])))))) (rS [jM 28 7,jM 6 28] .ret))))⟩
theorem irOk204 : irC Tryz.f204 = some ir204:=by kernel_rfl
def ir205 : BFun:=⟨[.cell 6 (some 4)],rS [jZ 6 25] (rS [jM 13 0,jM 14 1,jC 15 235 [.t 13,.t 14],jZ 7 25,jW 4 7 15] (rS [jM 16 1,jN 17 16,jA 18 2 17,jL 19 18,jK 20 1 19,jM 8 20] (.seq (rS [jI 9 0] (.block 0 (.loop (.seq (rS [jM 21 9,jM 22 0,jN 23 22,jA 24 2 23,jL 25 24,jK 26 1 25,
 jB 27 .lss 21 26] (kE 27 0)) (.seq (.block 1 (rS [jI 10 0] (.block 2 (.loop (.seq (rS [jM 30 10,jM 31 8,jB 32 .lss 30 31] (kE 32 2)) (.seq (.block 3 (rS [jM 35 0,jN 36 35,jA 37 2 36,jL 38 37,jM 39 9,jX 40 1 38 39,jL 41 40,jM 11 41] (rS [jM 42 1,jN 43 42,jA 44 2 43,jL 45 44,jM 46 10,
 jX 47 1 45 46,jL 48 47,jM 12 48] (rS [jM 49 2] (.block 4 (rS [jD 64 .eql 49 1,jM 63 64] (.cond (.t 63) (.region [jA 65 2 7,jL 66 65,jM 67 9,jM 68 8,jB 69 .mul 67 68,jM 70 10,jB 71 .add 69 70,jM 72 11,jM 73 72,oG 74 73 true (.mov (.t 12)),oP 75 (.pick (.t 73) (.t 74) (.c (.bool
 false))),jX 76 1 66 71,jW 1 76 75]) (rS [jD 78 .eql 49 2,jM 77 78] (.cond (.t 77) (.region [jA 79 2 7,jL 80 79,jM 81 9,jM 82 8,jB 83 .mul 81 82,jM 84 10,jB 85 .add 83 84,jM 86 11,jM 87 86,oG 88 87 false (.mov (.t 12)),jP 89 87 88 true,jX 90 1 80 85,jW 1 90 89]) (.region [jA 50 2 7,
 jL 51 50,jM 52 9,jM 53 8,jB 54 .mul 52 53,jM 55 10,jB 56 .add 54 55,jM 57 11,jM 58 57,oG 59 58 true (.mov (.t 12)),oG 60 58 true (.not (.t 59)),oP 61 (.pick (.t 58) (.t 60) (.c (.bool false))),jX 62 1 51 56,jW 1 62 61])))))))))) (.region [jM 33 10,jD 34 .add 33 1,jM 10 34])))))))
 (.region [jM 28 9,jD 29 .add 28 1,jM 9 29])))))) (rS [jQ 91 7,jW 4 6 91] .ret))))⟩
theorem irOk205 : irC Tryz.f205 = some ir205:=by kernel_rfl
def ir206 : BFun:=⟨[.tmp 4],rS [jF 4 false] (rS [jM 5 0,jM 6 1,jN 7 5,oP 8 (.idxa 256 1 (.t 7) (.t 6)),jL 9 8,jM 4 9] .ret)⟩
theorem irOk206 : irC Tryz.f206 = some ir206:=by kernel_rfl
def ir211 : BFun:=⟨[.tmp 4],rS [jF 4 false] (rS [jA 5 2 1,jL 6 5,jL 7 2,jM 8 0,jX 9 1 7 8,jL 10 9,jX 11 1 6 10,jL 12 11,jM 4 12] .ret)⟩
theorem irOk211 : irC Tryz.f211 = some ir211:=by kernel_rfl
def ir212 : BFun:=⟨[.tmp 7],rS [jI 7 0] (rS [jL 8 2,jA 9 3 3,jL 10 9,jL 11 4,jM 12 0,jX 13 1 11 12,jL 14 13,jX 15 1 10 14,jL 16 15,jM 17 1,jX 18 1 16 17,jL 19 18,jX 20 1 8 19,jL 21 20,jM 7 21] .ret)⟩
theorem irOk212 : irC Tryz.f212 = some ir212:=by kernel_rfl
def ir218 : BFun:=⟨[.tmp 4],rS [jT 2 25 0,jT 3 25 1,jI 4 0] (.seq (.block 0 (rS [jQ 6 2,jC 7 58 [.t 6],jJ 8 7,jM 9 8,oG 10 9 false (.load none (some 4) (.t 3)),oG 11 9 false (.call (.c (.fn 58 [])) [.t 10]),oG 12 9 false (.not (.t 11)),jP 13 9 12 true,jM 5 13] (.cond (.t 5) (rS [jI 4
 1] .ret) (rS [jA 15 0 2,jL 16 15,jA 17 0 3,jL 18 17,jB 19 .neq 16 18,jM 14 19] (.cond (.t 14) (rS [jI 4 2] .ret) .skip))))) (rS [jI 4 0] .ret))⟩
theorem irOk218 : irC Tryz.f218 = some ir218:=by kernel_rfl
def ir219 : BFun:=⟨[.cell 6 (some 4)],rS [jT 3 77 0,jT 4 77 1,jT 5 165 2,jZ 6 77] (rS [jA 10 0 3,jL 11 10,jA 12 1 3,jL 13 12,jA 14 1 4,jL 15 14,oP 16 (.build [.int .i64 0,.int .i64 0] [(0,1,.t 13),(1,1,.t 15)]),oP 17 (.mkfn 244 [.t 5,.t 3,.t 4]),oP 18 (.mkfn 245 [.t 3,.t 4]),
 jC 19 243 [.t 11,.t 16,cI 0,.t 17,.t 18],jM 9 19,jE 20 0 9,jE 21 1 9,jZ 7 77,jW 4 7 20,jM 8 21] (rS [jQ 22 7,jW 4 6 22] .ret))⟩
theorem irOk219 : irC Tryz.f219 = some ir219:=by kernel_rfl
def ir234 : BFun:=⟨[.cell 4 (some 4),.tmp 5],rS [jT 2 25 0,jZ 4 25,jI 5 0] (.seq (rS [jM 10 1,jK 11 1 10,jI 12 0] (.block 0 (.loop (rS [jB 13 .lss 12 11] (.seq (kE 13 0) (.seq (.block 1 (rS [jX 14 1 10 12,jL 15 14,jM 7 15] (rS [jQ 17 2,jM 18 7,jC 19 126 [.t 17,.t 18],jM 16 19,jE 20 0
 16,jE 21 1 16,jZ 8 25,jW 4 8 20,jM 9 21] (.seq (rS [jM 22 9,jD 23 .neq 22 0] (.cond (.t 23) (rS [jY 24,jM 25 9,jW 4 4 24,jM 5 25] .ret) .skip)) (.region [jQ 26 8,jW 4 2 26]))))) (.region [jD 27 .add 12 1,jM 12 27]))))))) (rS [jQ 28 2,jW 4 4 28,jI 5 0] .ret))⟩
theorem irOk234 : irC Tryz.f234 = some ir234:=by kernel_rfl
def ir235 : BFun:=⟨[.cell 4 (some 4)],rS [jZ 4 25] (rS [jM 11 1,jN 12 11,jA 13 2 12,jL 14 13,jK 15 1 14,jM 5 15] (rS [jM 16 0,jN 17 16,jA 18 0 17,jL 19 18,jM 20 0,jN 21 20,jA 22 1 21,jL 23 22,jM 24 5,jB 25 .mul 23 24,jM 26 1,jN 27 26,jA 28 1 27,jL 29 28,jB 30 .add 25 29,oP 31
 (.build [.int .i64 0,.int .i64 0,.nils,.nils] [(0,1,.t 19),(1,1,.t 30)]),jZ 6 25,jW 4 6 31] (.seq (rS [jI 7 0] (.block 0 (.loop (.seq (rS [jM 32 7,jM 33 0,jN 34 33,jA 35 2 34,jL 36 35,jK 37 1 36,jB 38 .lss 32 37] (kE 38 0)) (.seq (.block 1 (rS [jI 8 0] (.block 2 (.loop (.seq (rS
 [jM 41 8,jM 42 1,jN 43 42,jA 44 2 43,jL 45 44,jK 46 1 45,jB 47 .lss 41 46] (kE 47 2)) (.seq (.block 3 (rS [oP 50 (.mk 2 0 [] []),jM 9 50] (.seq (rS [jI 10 0] (.block 4 (.loop (.seq (rS [jM 51 10,jM 52 0,jN 53 52,jA 54 3 53,jL 55 54,jM 56 7,jX 57 1 55 56,jL 58 57,jK 59 1 58,jB 60
 .lss 51 59] (kE 60 4)) (.seq (.block 5 (.region [jM 63 9,jM 64 0,jN 65 64,jA 66 3 65,jL 67 66,jM 68 7,jX 69 1 67 68,jL 70 69,jM 71 10,jX 72 1 70 71,jL 73 72,jM 74 5,jB 75 .mul 73 74,jM 76 1,jN 77 76,jA 78 3 77,jL 79 78,jM 80 8,jX 81 1 79 80,jL 82 81,jM 83 10,jX 84 1 82 83,jL
 85 84,jB 86 .add 75 85,oP 87 (.mk 2 1 [.int .i64 0] [(0,1,.t 86)]),oP 88 (.app 2 1 8 (.t 63) (.t 87)),jM 9 88])) (.region [jM 61 10,jD 62 .add 61 1,jM 10 62])))))) (rS [jA 89 2 6,jL 90 89,jM 91 0,jN 92 91,jA 93 2 92,jL 94 93,jM 95 7,jX 96 1 94 95,jL 97 96,jM 98 1,jN 99 98,jA 100
 2 99,jL 101 100,jM 102 8,jX 103 1 101 102,jL 104 103,oP 105 (.beq true (.t 97) (.t 104)),oP 106 (.mk 4 1 [.bool false] [(0,1,.t 105)]),oP 107 (.app 4 1 1 (.t 90) (.t 106)),jA 108 2 6,jW 1 108 107] (.region [jA 109 3 6,jL 110 109,jM 111 9,oP 112 (.mk 36 1 [.nils] [(0,1,.t 111)]),oP
 113 (.app 36 1 24 (.t 110) (.t 112)),jA 114 3 6,jW 1 114 113]))))) (.region [jM 48 8,jD 49 .add 48 1,jM 8 49]))))))) (.region [jM 39 7,jD 40 .add 39 1,jM 7 40])))))) (rS [jQ 115 6,jW 4 4 115] .ret))))⟩
theorem irOk235 : irC Tryz.f235 = some ir235:=by kernel_rfl
def ir243 : BFun:=⟨[.cell 10 (some 4),.tmp 11],rS [jT 6 212 1,jZ 10 77,jF 11 false] (rS [jM 22 0,oP 23 (.build [.int .i64 0,.int .i64 0,.nils,.nils] [(0,1,.t 22)]),jZ 12 77,jW 4 12 23] (rS [oP 24 .mkmap,oP 25 (.load none (some 2) (.t 6)),oS (.mset 5 (.t 24) (.t 25) (cI 0)),jM 26
 24,jM 13 26] (rS [oP 27 (.load none (some 2) (.t 6)),oP 28 (.mk 212 1 [.int .i64 0,.int .i64 0] [(0,2,.t 27)]),jM 14 28] (.seq (rS [jI 15 0] (.block 0 (.loop (.seq (rS [jM 29 15,jM 30 14,jK 31 1 30,jB 32 .lss 29 31] (kE 32 0)) (.seq (.block 1 (rS [jM 35 14,jM 36 15,jX 37 2 35 36,oP 38
 (.load none (some 2) (.t 37)),oP 16 (.new 212 [.int .i64 0,.int .i64 0]),jW 2 16 38] (rS [oP 17 (.mov (.c .nils))] (.seq (rS [jI 18 0] (.block 2 (.loop (.seq (rS [jM 39 18,jM 40 0,jC 41 94 [.t 40],jB 42 .lss 39 41] (kE 42 2)) (.seq (.block 3 (rS [jM 45 4,oP 46 (.load none (some 2) (.t 16)),
 jM 47 18,oP 48 (.call (.t 45) [.t 46,.t 47]),oP 19 (.new 212 [.int .i64 0,.int .i64 0]),jW 2 19 48] (rS [jM 50 13,oP 51 (.load none (some 2) (.t 19)),oP 52 (.look 5 true (.int .i64 0) (.t 50) (.t 51)),jM 49 52,jE 53 0 49,jE 54 1 49,jM 20 53,jM 21 54] (.seq (rS [jM 55 21,jJ 56 55]
 (.cond (.t 56) (rS [jM 57 14,jK 58 1 57,jM 20 58] (rS [jM 59 13,oP 60 (.load none (some 2) (.t 19)),jM 61 20,oS (.mset 5 (.t 59) (.t 60) (.t 61))] (rS [jM 62 14,oP 63 (.load none (some 2) (.t 19)),oP 64 (.mk 212 1 [.int .i64 0,.int .i64 0] [(0,2,.t 63)]),oP 65 (.app 212 2 16 (.t 62) (.t
 64)),jM 14 65] (rS [jM 66 2,jD 67 .gtr 66 0,jM 68 67,oG 69 68 true (.mov (.t 14)),oG 70 68 true (.len 1 (.t 69)),oG 71 68 true (.mov (.t 2)),oG 72 68 true (.bin .gtr (.t 70) (.t 71)),oP 73 (.pick (.t 68) (.t 72) (.c (.bool false)))] (.cond (.t 73) (rS [jY 74,jW 4 10 74,jF 11 false] .ret)
 .skip))))) .skip)) (.region [jM 75 17,jM 76 20,oP 77 (.mk 3 1 [.int .i64 0] [(0,1,.t 76)]),oP 78 (.app 3 1 8 (.t 75) (.t 77)),jM 17 78]))))) (.region [jM 43 18,jD 44 .add 43 1,jM 18 44])))))) (rS [jA 79 2 12,oP 80 (.load (some 77) none (.t 79)),jM 81 3,oP 82 (.load none (some 2) (.t
 16)),⟨some 83,.call (.t 81) [.t 82],none,[77]⟩,oP 84 (.mk 4 1 [.bool false] [(0,1,.t 83)]),oP 85 (.app 4 1 1 (.t 80) (.t 84)),jA 86 2 12,jW 1 86 85] (.region [jA 87 3 12,jL 88 87,jM 89 17,oP 90 (.mk 80 1 [.nils] [(0,1,.t 89)]),oP 91 (.app 80 1 24 (.t 88) (.t 90)),jA 92 3 12,jW 1
 92 91])))))) (.region [jM 33 15,jD 34 .add 33 1,jM 15 34])))))) (rS [jQ 93 12,jW 4 10 93,jF 11 true] .ret)))))⟩
theorem irOk243 : irC Tryz.f243 = some ir243:=by kernel_rfl
def ir244 : BFun:=⟨[.tmp 5],rS [jT 4 212 0,jF 5 false] (rS [jL 6 1,jA 7 2 2,jL 8 7,oP 9 (.idxa 2 1 (.t 4) (cI 0)),jL 10 9,jX 11 1 8 10,jL 12 11,jA 13 2 3,jL 14 13,oP 15 (.idxa 2 1 (.t 4) (cI 1)),jL 16 15,jX 17 1 14 16,jL 18 17,oP 19 (.call (.t 6) [.t 12,.t 18]),jM 5 19] .ret)⟩
theorem irOk244 : irC Tryz.f244 = some ir244:=by kernel_rfl
def ir245 : BFun:=⟨[.cell 6 (some 2)],rS [jT 4 212 0,oP 6 (.new 212 [.int .i64 0,.int .i64 0])] (rS [jA 7 3 2,jL 8 7,oP 9 (.idxa 2 1 (.t 4) (cI 0)),jL 10 9,jX 11 1 8 10,jL 12 11,jM 13 1,jX 14 1 12 13,jL 15 14,jA 16 3 3,jL 17 16,oP 18 (.idxa 2 1 (.t 4) (cI 1)),jL 19 18,jX 20 1 17
 19,jL 21 20,jM 22 1,jX 23 1 21 22,jL 24 23,oP 25 (.build [.int .i64 0,.int .i64 0] [(0,1,.t 15),(1,1,.t 24)]),jW 2 6 25] .ret)⟩
theorem irOk245 : irC Tryz.f245 = some ir245:=by kernel_rfl
def fnA : Nat→Option BFun
  | 4 => some ir4
  | 15 => some ir15
  | 16 => some ir16
  | 17 => some ir17
  | 18 => some ir18
  | 19 => some ir19
  | 20 => some ir20
  | 21 => some ir21
  | 25 => some ir25
  | 41 => some ir41
  | 45 => some ir45
  | 46 => some ir46
  | 47 => some ir47
  | 48 => some ir48
  | 49 => some ir49
  | 50 => some ir50
  | 51 => some ir51
  | 52 => some ir52
  | 53 => some ir53
  | 54 => some ir54
  | 55 => some ir55
  | 56 => some ir56
  | 57 => some ir57
  | 58 => some ir58
  | 59 => some ir59
  | 60 => some ir60
  | 61 => some ir61
  | 62 => some ir62
  | _ => none
def fnB : Nat→Option BFun
  | 63 => some ir63
  | 66 => some ir66
  | 67 => some ir67
  | 68 => some ir68
  | 69 => some ir69
  | 88 => some ir88
  | 94 => some ir94
  | 95 => some ir95
  | 96 => some ir96
  | 97 => some ir97
  | 98 => some ir98
  | 99 => some ir99
  | 100 => some ir100
  | 101 => some ir101
  | 102 => some ir102
  | 103 => some ir103
  | 104 => some ir104
  | 105 => some ir105
  | 106 => some ir106
  | 107 => some ir107
  | 108 => some ir108
  | 110 => some ir110
  | 111 => some ir111
  | 113 => some ir113
  | 116 => some ir116
  | _ => none
def fnC : Nat→Option BFun
  | 126 => some ir126
  | 137 => some ir137
  | 148 => some ir148
  | 149 => some ir149
  | 150 => some ir150
  | 151 => some ir151
  | 152 => some ir152
  | 153 => some ir153
  | 154 => some ir154
  | 155 => some ir155
  | 156 => some ir156
  | 159 => some ir159
  | 160 => some ir160
  | 161 => some ir161
  | 164 => some ir164
  | 165 => some ir165
  | 166 => some ir166
  | 167 => some ir167
  | 168 => some ir168
  | 176 => some ir176
  | 183 => some ir183
  | 184 => some ir184
  | _ => none
def fnD : Nat→Option BFun
  | 188 => some ir188
  | 190 => some ir190
  | 201 => some ir201
  | 202 => some ir202
  | 203 => some ir203
  | 204 => some ir204
  | 205 => some ir205
  | 206 => some ir206
  | 211 => some ir211
  | 212 => some ir212
  | 218 => some ir218
  | 219 => some ir219
  | 234 => some ir234
  | 235 => some ir235
  | 243 => some ir243
  | 244 => some ir244
  | 245 => some ir245
  | _ => none
def fnOf (f : Nat) : Option BFun:=match fnA f with | some x => some x | none => match fnB f with | some x => some x | none => match fnC f with | some x => some x | none => fnD f
def gam (base : Nat) : Ctx:=⟨base,fnOf,orC (itoaB 210) (orC (delB base 185 3) (insB base 213 3))⟩
theorem linkedA : Linked Tryz.prog sq ⟨0,fnA,fun _ _ _ _ _ => False⟩:=by
  intro f bfn h
  simp only [fnA] at h
  split at h
  · cases h; exact ⟨Tryz.f4,Tryz.func4,irOk4,by kernel_rfl⟩
  · cases h; exact ⟨Tryz.f15,Tryz.func15,irOk15,by kernel_rfl⟩
  · cases h; exact ⟨Tryz.f16,Tryz.func16,irOk16,by kernel_rfl⟩
  · cases h; exact ⟨Tryz.f17,Tryz.func17,irOk17,by kernel_rfl⟩
  · cases h; exact ⟨Tryz.f18,Tryz.func18,irOk18,by kernel_rfl⟩
  · cases h; exact ⟨Tryz.f19,Tryz.func19,irOk19,by kernel_rfl⟩
  · cases h; exact ⟨Tryz.f20,Tryz.func20,irOk20,by kernel_rfl⟩
  · cases h; exact ⟨Tryz.f21,Tryz.func21,irOk21,by kernel_rfl⟩
  · cases h; exact ⟨Tryz.f25,Tryz.func25,irOk25,by kernel_rfl⟩
  · cases h; exact ⟨Tryz.f41,Tryz.func41,irOk41,by kernel_rfl⟩
  · cases h; exact ⟨Tryz.f45,Tryz.func45,irOk45,by kernel_rfl⟩
  · cases h; exact ⟨Tryz.f46,Tryz.func46,irOk46,by kernel_rfl⟩
  · cases h; exact ⟨Tryz.f47,Tryz.func47,irOk47,by kernel_rfl⟩
  · cases h; exact ⟨Tryz.f48,Tryz.func48,irOk48,by kernel_rfl⟩
  · cases h; exact ⟨Tryz.f49,Tryz.func49,irOk49,by kernel_rfl⟩
  · cases h; exact ⟨Tryz.f50,Tryz.func50,irOk50,by kernel_rfl⟩
  · cases h; exact ⟨Tryz.f51,Tryz.func51,irOk51,by kernel_rfl⟩
  · cases h; exact ⟨Tryz.f52,Tryz.func52,irOk52,by kernel_rfl⟩
  · cases h; exact ⟨Tryz.f53,Tryz.func53,irOk53,by kernel_rfl⟩
  · cases h; exact ⟨Tryz.f54,Tryz.func54,irOk54,by kernel_rfl⟩
  · cases h; exact ⟨Tryz.f55,Tryz.func55,irOk55,by kernel_rfl⟩
  · cases h; exact ⟨Tryz.f56,Tryz.func56,irOk56,by kernel_rfl⟩
  · cases h; exact ⟨Tryz.f57,Tryz.func57,irOk57,by kernel_rfl⟩
  · cases h; exact ⟨Tryz.f58,Tryz.func58,irOk58,by kernel_rfl⟩
  · cases h; exact ⟨Tryz.f59,Tryz.func59,irOk59,by kernel_rfl⟩
  · cases h; exact ⟨Tryz.f60,Tryz.func60,irOk60,by kernel_rfl⟩
  · cases h; exact ⟨Tryz.f61,Tryz.func61,irOk61,by kernel_rfl⟩
  · cases h; exact ⟨Tryz.f62,Tryz.func62,irOk62,by kernel_rfl⟩
  · cases h
theorem linkedB : Linked Tryz.prog sq ⟨0,fnB,fun _ _ _ _ _ => False⟩:=by
  intro f bfn h
  simp only [fnB] at h
  split at h
  · cases h; exact ⟨Tryz.f63,Tryz.func63,irOk63,by kernel_rfl⟩
  · cases h; exact ⟨Tryz.f66,Tryz.func66,irOk66,by kernel_rfl⟩
  · cases h; exact ⟨Tryz.f67,Tryz.func67,irOk67,by kernel_rfl⟩
  · cases h; exact ⟨Tryz.f68,Tryz.func68,irOk68,by kernel_rfl⟩
  · cases h; exact ⟨Tryz.f69,Tryz.func69,irOk69,by kernel_rfl⟩
  · cases h; exact ⟨Tryz.f88,Tryz.func88,irOk88,by kernel_rfl⟩
  · cases h; exact ⟨Tryz.f94,Tryz.func94,irOk94,by kernel_rfl⟩
  · cases h; exact ⟨Tryz.f95,Tryz.func95,irOk95,by kernel_rfl⟩
  · cases h; exact ⟨Tryz.f96,Tryz.func96,irOk96,by kernel_rfl⟩
  · cases h; exact ⟨Tryz.f97,Tryz.func97,irOk97,by kernel_rfl⟩
  · cases h; exact ⟨Tryz.f98,Tryz.func98,irOk98,by kernel_rfl⟩
  · cases h; exact ⟨Tryz.f99,Tryz.func99,irOk99,by kernel_rfl⟩
  · cases h; exact ⟨Tryz.f100,Tryz.func100,irOk100,by kernel_rfl⟩
  · cases h; exact ⟨Tryz.f101,Tryz.func101,irOk101,by kernel_rfl⟩
  · cases h; exact ⟨Tryz.f102,Tryz.func102,irOk102,by kernel_rfl⟩
  · cases h; exact ⟨Tryz.f103,Tryz.func103,irOk103,by kernel_rfl⟩
  · cases h; exact ⟨Tryz.f104,Tryz.func104,irOk104,by kernel_rfl⟩
  · cases h; exact ⟨Tryz.f105,Tryz.func105,irOk105,by kernel_rfl⟩
  · cases h; exact ⟨Tryz.f106,Tryz.func106,irOk106,by kernel_rfl⟩
  · cases h; exact ⟨Tryz.f107,Tryz.func107,irOk107,by kernel_rfl⟩
  · cases h; exact ⟨Tryz.f108,Tryz.func108,irOk108,by kernel_rfl⟩
  · cases h; exact ⟨Tryz.f110,Tryz.func110,irOk110,by kernel_rfl⟩
  · cases h; exact ⟨Tryz.f111,Tryz.func111,irOk111,by kernel_rfl⟩
  · cases h; exact ⟨Tryz.f113,Tryz.func113,irOk113,by kernel_rfl⟩
  · cases h; exact ⟨Tryz.f116,Tryz.func116,irOk116,by kernel_rfl⟩
  · cases h
theorem linkedC : Linked Tryz.prog sq ⟨0,fnC,fun _ _ _ _ _ => False⟩:=by
  intro f bfn h
  simp only [fnC] at h
  split at h
  · cases h; exact ⟨Tryz.f126,Tryz.func126,irOk126,by kernel_rfl⟩
  · cases h; exact ⟨Tryz.f137,Tryz.func137,irOk137,by kernel_rfl⟩
  · cases h; exact ⟨Tryz.f148,Tryz.func148,irOk148,by kernel_rfl⟩
  · cases h; exact ⟨Tryz.f149,Tryz.func149,irOk149,by kernel_rfl⟩
  · cases h; exact ⟨Tryz.f150,Tryz.func150,irOk150,by kernel_rfl⟩
  · cases h; exact ⟨Tryz.f151,Tryz.func151,irOk151,by kernel_rfl⟩
  · cases h; exact ⟨Tryz.f152,Tryz.func152,irOk152,by kernel_rfl⟩
  · cases h; exact ⟨Tryz.f153,Tryz.func153,irOk153,by kernel_rfl⟩
  · cases h; exact ⟨Tryz.f154,Tryz.func154,irOk154,by kernel_rfl⟩
  · cases h; exact ⟨Tryz.f155,Tryz.func155,irOk155,by kernel_rfl⟩
  · cases h; exact ⟨Tryz.f156,Tryz.func156,irOk156,by kernel_rfl⟩
  · cases h; exact ⟨Tryz.f159,Tryz.func159,irOk159,by kernel_rfl⟩
  · cases h; exact ⟨Tryz.f160,Tryz.func160,irOk160,by kernel_rfl⟩
  · cases h; exact ⟨Tryz.f161,Tryz.func161,irOk161,by kernel_rfl⟩
  · cases h; exact ⟨Tryz.f164,Tryz.func164,irOk164,by kernel_rfl⟩
  · cases h; exact ⟨Tryz.f165,Tryz.func165,irOk165,by kernel_rfl⟩
  · cases h; exact ⟨Tryz.f166,Tryz.func166,irOk166,by kernel_rfl⟩
  · cases h; exact ⟨Tryz.f167,Tryz.func167,irOk167,by kernel_rfl⟩
  · cases h; exact ⟨Tryz.f168,Tryz.func168,irOk168,by kernel_rfl⟩
  · cases h; exact ⟨Tryz.f176,Tryz.func176,irOk176,by kernel_rfl⟩
  · cases h; exact ⟨Tryz.f183,Tryz.func183,irOk183,by kernel_rfl⟩
  · cases h; exact ⟨Tryz.f184,Tryz.func184,irOk184,by kernel_rfl⟩
  · cases h
theorem linkedD : Linked Tryz.prog sq ⟨0,fnD,fun _ _ _ _ _ => False⟩:=by
  intro f bfn h
  simp only [fnD] at h
  split at h
  · cases h; exact ⟨Tryz.f188,Tryz.func188,irOk188,by kernel_rfl⟩
  · cases h; exact ⟨Tryz.f190,Tryz.func190,irOk190,by kernel_rfl⟩
  · cases h; exact ⟨Tryz.f201,Tryz.func201,irOk201,by kernel_rfl⟩
  · cases h; exact ⟨Tryz.f202,Tryz.func202,irOk202,by kernel_rfl⟩
  · cases h; exact ⟨Tryz.f203,Tryz.func203,irOk203,by kernel_rfl⟩
  · cases h; exact ⟨Tryz.f204,Tryz.func204,irOk204,by kernel_rfl⟩
  · cases h; exact ⟨Tryz.f205,Tryz.func205,irOk205,by kernel_rfl⟩
  · cases h; exact ⟨Tryz.f206,Tryz.func206,irOk206,by kernel_rfl⟩
  · cases h; exact ⟨Tryz.f211,Tryz.func211,irOk211,by kernel_rfl⟩
  · cases h; exact ⟨Tryz.f212,Tryz.func212,irOk212,by kernel_rfl⟩
  · cases h; exact ⟨Tryz.f218,Tryz.func218,irOk218,by kernel_rfl⟩
  · cases h; exact ⟨Tryz.f219,Tryz.func219,irOk219,by kernel_rfl⟩
  · cases h; exact ⟨Tryz.f234,Tryz.func234,irOk234,by kernel_rfl⟩
  · cases h; exact ⟨Tryz.f235,Tryz.func235,irOk235,by kernel_rfl⟩
  · cases h; exact ⟨Tryz.f243,Tryz.func243,irOk243,by kernel_rfl⟩
  · cases h; exact ⟨Tryz.f244,Tryz.func244,irOk244,by kernel_rfl⟩
  · cases h; exact ⟨Tryz.f245,Tryz.func245,irOk245,by kernel_rfl⟩
  · cases h
theorem linked (base : Nat) : Linked Tryz.prog sq (gam base):=by
  intro f bfn h
  have h : fnOf f = some bfn:=h
  unfold fnOf at h
  split at h
  · next x hx => exact linkedA f bfn (by cases h; exact hx)
  split at h
  · next x hx => exact linkedB f bfn (by cases h; exact hx)
  split at h
  · next x hx => exact linkedC f bfn (by cases h; exact hx)
  exact linkedD f bfn h
end Go.Proofs.YtbnmhbmhafbmiaaGreatDoor.W
end
