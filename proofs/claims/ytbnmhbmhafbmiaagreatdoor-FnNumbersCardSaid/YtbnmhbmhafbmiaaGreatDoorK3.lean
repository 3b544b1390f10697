/-
Texts of our own, put together: Ir.
-/
import Derived.Test.YtbnmhbmhafbmiaaGreatDoorK2
import Derived.Test.YtbnmhbmhafbmiaaGreatDoorProg
import Derived.KernelRfl
section
namespace Go.Proofs.YtbnmhbmhafbmiaaGreatDoor.W
set_option linter.unusedVariables false
open Go.B
noncomputable def sq (t : Nat) : Bool:=!Tryz.prog.stoodInHeld t && !Tryz.prog.eqGuardType Tryz.prog.depth t
theorem sqOk (t : Nat) (h : sq t = true) : Tryz.prog.stoodInHeld t = false∧Tryz.prog.eqGuardType Tryz.prog.depth t = false:=by
  simpa [sq] using h
noncomputable abbrev irC (f : Func) : Option BFun:=compFun Tryz.prog.underlying Tryz.prog.info? sq f
abbrev oP (d : Nat) (o : BOp) : BOper:=⟨some d,o,none,[]⟩
abbrev oS (o : BOp) : BOper:=⟨none,o,none,[]⟩
abbrev oG (d g : Nat) (b : Bool) (o : BOp) : BOper:=⟨some d,o,some (g,b),[]⟩
abbrev rS (l : List BOper) (c : BCode) : BCode:=.seq (.region l) c
abbrev jM (d a : Nat) : BOper:=oP d (.mov (.t a))
abbrev jI (d : Nat) (k : Int) : BOper:=oP d (.mov (.c (.int .i64 k)))
abbrev jL (d a : Nat) : BOper:=oP d (.load none none (.t a))
abbrev jQ (d a : Nat) : BOper:=oP d (.load none (some 4) (.t a))
abbrev jE (d n a : Nat) : BOper:=oP d (.ext n (.t a))
abbrev jC (d k : Nat) (xs : List Opd) : BOper:=oP d (.call (.c (.fn k [])) xs)
abbrev jA (d n a : Nat) : BOper:=oP d (.lea n (.t a))
abbrev jZ (d n : Nat) : BOper:=oP d (.new n [.int .i64 0,.int .i64 0,.nils,.nils])
abbrev jW (n a b : Nat) : BOper:=oS (.store none n (.t a) (.t b))
abbrev jY (d : Nat) : BOper:=oP d (.build [.int .i64 0,.int .i64 0,.nils,.nils] [])
abbrev jX (d n a b : Nat) : BOper:=oP d (.idx n (.t a) (.t b))
abbrev jJ (d a : Nat) : BOper:=oP d (.not (.t a))
abbrev jB (d : Nat) (o : BinOp) (a b : Nat) : BOper:=oP d (.bin o (.t a) (.t b))
abbrev jD (d : Nat) (o : BinOp) (a : Nat) (k : Int) : BOper:=oP d (.bin o (.t a) (.c (.int .i64 k)))
abbrev jK (d n a : Nat) : BOper:=oP d (.len n (.t a))
abbrev jT (d n a : Nat) : BOper:=oP d (.box n (.t a))
abbrev jN (d a : Nat) : BOper:=oP d (.nilck (.t a))
abbrev jF (d : Nat) (b : Bool) : BOper:=oP d (.mov (.c (.bool b)))
abbrev jP (d a b : Nat) (u : Bool) : BOper:=oP d (.pick (.t a) (.c (.bool u)) (.t b))
abbrev kE (a n : Nat) : BCode:=.cond (.t a) .skip (.exit n)
abbrev cI (k : Int) : Opd:=.c (.int .i64 k)
def ir5 : BFun:=⟨[.tmp 4],rS [jF 4 false] (.seq (rS [jM 33 0,jM 34 1,jC 35 15 [.t 33,.t 34]] (.cond (.t 35) (rS [jF 4 true] .ret) .skip)) (rS [jM 36 0,jC 37 16 [.t 36,cI 0,cI 256],jD 38 .mul 37 256,jM 39 0,jC 40 16 [.t 39,cI 1,cI 256],jB 41 .add 38 40,jM 5 41] (rS [jM 42 1,jC 43 16
 [.t 42,cI 0,cI 256],jD 44 .mul 43 256,jM 45 1,jC 46 16 [.t 45,cI 1,cI 256],jB 47 .add 44 46,jM 6 47] (rS [jM 49 5,jC 50 20 [.t 49],jM 48 50,jE 51 0 48,jE 52 1 48,jM 7 51,jM 8 52] (rS [jM 54 6,jC 55 20 [.t 54],jM 53 55,jE 56 0 53,jE 57 1 53,jM 9 56,jM 10 57] (rS [jM 59 5,jM 60
 6,jB 61 .add 59 60,jC 62 20 [.t 61],jM 58 62,jE 63 0 58,jE 64 1 58,jM 11 63,jM 12 64] (rS [jM 66 7,jC 67 22 [.t 66],jM 65 67,jE 68 0 65,jE 69 1 65,jM 13 68,jM 14 69] (.seq (rS [jM 70 8,jD 71 .neq 70 0,jM 72 71,oG 73 72 false (.mov (.t 10)),oG 74 72 false (.bin .neq (.t 73) (cI
 0)),jP 75 72 74 true,jM 76 75,oG 77 76 false (.mov (.t 12)),oG 78 76 false (.bin .neq (.t 77) (cI 0)),jP 79 76 78 true,jM 80 79,oG 81 80 false (.mov (.t 14)),oG 82 80 false (.bin .neq (.t 81) (cI 0)),jP 83 80 82 true,jM 84 83,oG 85 84 false (.mov (.t 13)),oG 86 84 false (.mov (.t 5)),
 oG 87 84 false (.bin .neq (.t 85) (.t 86)),jP 88 84 87 true,jM 89 88,oG 90 89 false (.mov (.t 7)),oG 91 89 false (.len 0 (.t 90)),oG 92 89 false (.mov (.t 9)),oG 93 89 false (.len 0 (.t 92)),oG 94 89 false (.bin .gtr (.t 91) (.t 93)),oG 95 89 false (.mov (.t 94)),oG 96 95 true (.mov (.t
 5)),oG 97 95 true (.mov (.t 6)),oG 98 95 true (.bin .leq (.t 96) (.t 97)),oG 99 89 false (.pick (.t 95) (.t 98) (.c (.bool false))),jP 100 89 99 true] (.cond (.t 100) (rS [jF 4 false] .ret) .skip)) (rS [jC 102 23 [],jM 103 7,jM 104 9,jM 105 11,oP 106 (.mk 9 3 [.str ⟨#[]⟩,.str ⟨#[]⟩,.str
 ⟨#[]⟩] [(0,1,.t 103),(1,1,.t 104),(2,1,.t 105)]),jC 107 21 [.t 102,.t 106],jM 101 107,jE 108 0 101,jE 109 1 101,jM 15 108,jM 16 109] (rS [jM 111 5,jM 112 6,jB 113 .add 111 112,jD 114 .add 113 1,jC 115 20 [.t 114],jM 110 115,jE 116 0 110,jE 117 1 110,jM 17 116,jM 18 117] (rS
 [jC 119 23 [],jM 120 7,jM 121 9,jM 122 17,oP 123 (.mk 9 3 [.str ⟨#[]⟩,.str ⟨#[]⟩,.str ⟨#[]⟩] [(0,1,.t 120),(1,1,.t 121),(2,1,.t 122)]),jC 124 21 [.t 119,.t 123],jM 118 124,jE 125 0 118,jE 126 1 118,jM 19 125,jM 20 126] (rS [jC 128 24 [],jM 129 7,jM 130 9,oP 131 (.mk 9 2
 [.str ⟨#[]⟩,.str ⟨#[]⟩] [(0,1,.t 129),(1,1,.t 130)]),jC 132 21 [.t 128,.t 131],jM 127 132,jE 133 0 127,jE 134 1 127,jM 21 133,jM 22 134] (rS [jC 136 25 [],jM 137 7,oP 138 (.mk 9 1 [.str ⟨#[]⟩] [(0,1,.t 137)]),jC 139 21 [.t 136,.t 138],jM 135 139,jE 140 0 135,jE 141 1 135,jM
 23 140,jM 24 141] (.seq (rS [jM 142 16,jD 143 .neq 142 0,jM 144 143,oG 145 144 false (.mov (.t 15)),oG 146 144 false (.not (.t 145)),jP 147 144 146 true,jM 148 147,oG 149 148 false (.mov (.t 18)),oG 150 148 false (.bin .neq (.t 149) (cI 0)),jP 151 148 150 true,jM 152 151,oG 153 152
 false (.mov (.t 20)),oG 154 152 false (.bin .neq (.t 153) (cI 0)),jP 155 152 154 true,jM 156 155,oG 157 156 false (.mov (.t 19)),jP 158 156 157 true,jM 159 158,oG 160 159 false (.mov (.t 22)),oG 161 159 false (.bin .neq (.t 160) (cI 0)),jP 162 159 161 true,jM 163 162,oG 164 163 false
 (.mov (.t 21)),oG 165 163 false (.mov (.t 5)),oG 166 163 false (.mov (.t 6)),oG 167 163 false (.bin .lss (.t 165) (.t 166)),oG 168 163 false (.beq true (.t 164) (.t 167)),jP 169 163 168 true,jM 170 169,oG 171 170 false (.mov (.t 24)),oG 172 170 false (.bin .neq (.t 171) (cI 0)),jP 173 170
 172 true,jM 174 173,oG 175 174 false (.mov (.t 23)),oG 176 174 false (.not (.t 175)),jP 177 174 176 true] (.cond (.t 177) (rS [jF 4 false] .ret) .skip)) (rS [jM 178 1,jC 179 16 [.t 178,cI 2,cI 9],oP 180 (.bin .add (cI 1) (.t 179)),jM 25 180] (rS [jM 181 0,jM 182 25,jC 183 16 [.t 181,cI
 2,.t 182],jM 26 183] (rS [jM 185 25,jM 186 26,jC 187 26 [.t 185,.t 186],jM 184 187,jE 188 0 184,jE 189 1 184,jZ 27 25,jW 4 27 188,jM 28 189] (rS [jQ 191 27,jM 192 7,oP 193 (.mk 9 1 [.str ⟨#[]⟩] [(0,1,.t 192)]),jC 194 21 [.t 191,.t 193],jM 190 194,jE 195 0 190,jE 196 1 190,jM
 29 195,jM 30 196] (rS [jQ 198 27,jM 199 7,oP 200 (.bin .add (.t 199) (.c (.str ⟨#[97]⟩))),oP 201 (.mk 9 1 [.str ⟨#[]⟩] [(0,1,.t 200)]),jC 202 21 [.t 198,.t 201],jM 197 202,jE 203 0 197,jE 204 1 197,jM 31 203,jM 32 204] (rS [jM 205 28,jD 206 .eql 205 0,jM 207 206,oG 208 207 true
 (.mov (.t 30)),oG 209 207 true (.bin .eql (.t 208) (cI 0)),oP 210 (.pick (.t 207) (.t 209) (.c (.bool false))),jM 211 210,oG 212 211 true (.mov (.t 29)),oG 213 211 true (.mov (.t 5)),oG 214 211 true (.mov (.t 25)),oG 215 211 true (.bin .rem (.t 213) (.t 214)),oG 216 211 true (.mov (.t
 26)),oG 217 211 true (.bin .eql (.t 215) (.t 216)),oG 218 211 true (.beq false (.t 212) (.t 217)),oP 219 (.pick (.t 211) (.t 218) (.c (.bool false))),jM 220 219,oG 221 220 true (.mov (.t 32)),oG 222 220 true (.bin .eql (.t 221) (cI 0)),oP 223 (.pick (.t 220) (.t 222) (.c (.bool false))),jM
 224 223,oG 225 224 true (.mov (.t 31)),oG 226 224 true (.not (.t 225)),oP 227 (.pick (.t 224) (.t 226) (.c (.bool false))),jM 4 227] .ret))))))))))))))))))))⟩
theorem irOk5 : irC Tryz.f5 = some ir5:=by kernel_rfl
def ir15 : BFun:=⟨[.tmp 4],rS [jF 4 false] (rS [jM 5 0,jK 6 1 5,jD 7 .gtr 6 3000,jM 8 7,oG 9 8 false (.mov (.t 1)),oG 10 8 false (.len 1 (.t 9)),oG 11 8 false (.bin .gtr (.t 10) (cI 3000)),jP 12 8 11 true,jM 4 12] .ret)⟩
theorem irOk15 : irC Tryz.f15 = some ir15:=by kernel_rfl
def ir16 : BFun:=⟨[.tmp 6],rS [jI 6 0] (.seq (rS [jM 7 1,jM 8 0,jK 9 1 8,jB 10 .geq 7 9,jM 11 10,oG 12 11 false (.mov (.t 2)),oG 13 11 false (.bin .lss (.t 12) (cI 1)),jP 14 11 13 true] (.cond (.t 14) (rS [jI 6 0] .ret) .skip)) (rS [jM 15 0,jM 16 1,jX 17 1 15 16,jL 18 17,oP 19 (.conv
 .i64 (.t 18)),jM 20 2,jB 21 .rem 19 20,jM 6 21] .ret))⟩
theorem irOk16 : irC Tryz.f16 = some ir16:=by kernel_rfl
def ir20 : BFun:=⟨[.tmp 2,.tmp 3],rS [oP 2 (.mov (.c (.str ⟨#[]⟩))),jI 3 0] (.seq (rS [jM 4 0,jC 5 56 [.t 4],jJ 6 5] (.cond (.t 6) (rS [oP 2 (.mov (.c (.str ⟨#[]⟩))),jI 3 2] .ret) .skip)) (rS [jM 7 0,jC 8 57 [.t 7],jM 2 8,jI 3 0] .ret))⟩
theorem irOk20 : irC Tryz.f20 = some ir20:=by kernel_rfl
def ir21 : BFun:=⟨[.tmp 4,.tmp 5],rS [jT 2 25 0,jF 4 false,jI 5 0] (.seq (.block 0 (rS [jQ 7 2,jC 8 58 [.t 7],jJ 9 8,jM 10 9,oG 11 10 false (.mov (.t 1)),oG 12 10 false (.call (.c (.fn 59 [])) [.t 11]),oG 13 10 false (.not (.t 12)),jP 14 10 13 true,jM 6 14] (.cond (.t 6) (rS [jF 4
 false,jI 5 1] .ret) (rS [jM 16 1,jK 17 1 16,jA 18 0 2,jL 19 18,jB 20 .neq 17 19,jM 15 20] (.cond (.t 15) (rS [jF 4 false,jI 5 2] .ret) .skip))))) (rS [jQ 21 2,jC 22 60 [.t 21],jM 23 1,jC 24 62 [.t 23],jC 25 61 [.t 22,.t 24],jM 4 25,jI 5 0] .ret))⟩
theorem irOk21 : irC Tryz.f21 = some ir21:=by kernel_rfl
def ir22 : BFun:=⟨[.tmp 2,.tmp 3],rS [jI 2 0,jI 3 0] (.seq (.block 0 (rS [jM 6 0,jC 7 63 [.t 6],jJ 8 7,jM 5 8] (.cond (.t 5) (rS [jI 2 0,jI 3 1] .ret) (rS [jM 10 0,oP 11 (.call (.c (.fn 64 [])) [.t 10,.c (.str ⟨#[97]⟩)]),jM 9 11] (.cond (.t 9) (rS [jI 2 0,jI 3 4] .ret) .skip))))) (rS
 [jM 12 0,jC 13 65 [.t 12],jM 4 13] (.seq (rS [jM 14 4,jC 15 56 [.t 14],jJ 16 15] (.cond (.t 16) (rS [jI 2 0,jI 3 2] .ret) .skip)) (rS [jM 17 4,jM 2 17,jI 3 0] .ret))))⟩
theorem irOk22 : irC Tryz.f22 = some ir22:=by kernel_rfl
def ir23 : BFun:=⟨[.cell 0 (some 4)],rS [jZ 0 25] (rS [oP 4 (.mk 2 3 [.int .i64 0,.int .i64 0,.int .i64 0] [(0,1,cI 1),(1,1,cI 1),(2,1,cI (-1))]),jC 5 47 [cI 1,.t 4,cI 0],jM 3 5,jE 6 0 3,jE 7 1 3,jZ 1 25,jW 4 1 6,jM 2 7] (rS [jQ 8 1,jW 4 0 8] .ret))⟩
theorem irOk23 : irC Tryz.f23 = some ir23:=by kernel_rfl
def ir24 : BFun:=⟨[.cell 0 (some 4)],rS [jZ 0 25] (rS [oP 4 (.mk 2 2 [.int .i64 0,.int .i64 0] [(0,1,cI 1),(1,1,cI (-1))]),jC 5 47 [cI 2,.t 4,cI (-1)],jM 3 5,jE 6 0 3,jE 7 1 3,jZ 1 25,jW 4 1 6,jM 2 7] (rS [jQ 8 1,jW 4 0 8] .ret))⟩
theorem irOk24 : irC Tryz.f24 = some ir24:=by kernel_rfl
def ir25 : BFun:=⟨[.cell 0 (some 4)],rS [jZ 0 25] (rS [oP 6 (.call (.c (.fn 66 [])) [cI 1,cI 1,cI 0,.c (.fn 67 []),.c (.fn 68 [])]),jM 5 6,jE 7 0 5,jE 8 1 5,jZ 1 77,jW 4 1 7,jM 2 8] (rS [jQ 10 1,jC 11 69 [.t 10],jM 9 11,jE 12 0 9,jE 13 1 9,jZ 3 25,jW 4 3 12,jM 4 13] (rS [jQ 14
 3,jW 4 0 14] .ret)))⟩
theorem irOk25 : irC Tryz.f25 = some ir25:=by kernel_rfl
def ir26 : BFun:=⟨[.cell 4 (some 4),.tmp 5],rS [jZ 4 25,jI 5 0] (.seq (rS [jM 8 0,jC 9 45 [.t 8,cI 1,cI 20],jJ 10 9,jM 11 10,oG 12 11 false (.mov (.t 1)),oG 13 11 false (.mov (.t 0)),oG 14 11 false (.bin .sub (.t 13) (cI 1)),oG 15 11 false (.call (.c (.fn 45 [])) [.t 12,cI 0,.t
 14]),oG 16 11 false (.not (.t 15)),jP 17 11 16 true] (.cond (.t 17) (rS [jY 18,jW 4 4 18,jI 5 2] .ret) .skip)) (rS [jM 20 0,oP 21 (.neg (.t 20)),oP 22 (.mk 2 2 [.int .i64 0,.int .i64 0] [(0,1,cI 1),(1,1,.t 21)]),jM 23 1,jC 24 47 [cI 1,.t 22,.t 23],jM 19 24,jE 25 0 19,jE 26 1 19,
 jZ 6 25,jW 4 6 25,jM 7 26] (.seq (rS [jM 27 7,jD 28 .neq 27 0] (.cond (.t 28) (rS [jY 29,jM 30 7,jW 4 4 29,jM 5 30] .ret) .skip)) (rS [jQ 31 6,jC 32 70 [.t 31,cI 1],jE 33 0 32,jE 34 1 32,jW 4 4 33,jM 5 34] .ret))))⟩
theorem irOk26 : irC Tryz.f26 = some ir26:=by kernel_rfl
def ir41 : BFun:=⟨[.cell 4 (some 5)],rS [jT 2 25 0,oP 4 (.new 28 [.int .i64 0,.int .i64 0,.nils,.nils,.nils])] (rS [jQ 5 2,jM 6 1,oP 7 (.build [.int .i64 0,.int .i64 0,.nils,.nils,.nils] [(0,4,.t 5),(4,1,.t 6)]),jW 5 4 7] .ret)⟩
theorem irOk41 : irC Tryz.f41 = some ir41:=by kernel_rfl
def ir45 : BFun:=⟨[.tmp 6],rS [jF 6 false] (rS [jM 7 1,jM 8 0,jB 9 .leq 7 8,jM 10 9,oG 11 10 true (.mov (.t 0)),oG 12 10 true (.mov (.t 2)),oG 13 10 true (.bin .leq (.t 11) (.t 12)),oP 14 (.pick (.t 10) (.t 13) (.c (.bool false))),jM 6 14] .ret)⟩
theorem irOk45 : irC Tryz.f45 = some ir45:=by kernel_rfl
def ir46 : BFun:=⟨[.tmp 2],rS [jF 2 false] (rS [jM 3 0,jC 4 45 [.t 3,cI 1,cI 3],jM 2 4] .ret)⟩
theorem irOk46 : irC Tryz.f46 = some ir46:=by kernel_rfl
def ir47 : BFun:=⟨[.cell 6 (some 4),.tmp 7],rS [jT 3 2 0,jZ 6 25,jI 7 0] (rS [jM 19 1,jK 20 1 19,jM 8 20] (rS [jM 21 8,jC 22 94 [.t 21],oP 23 (.mksl 2 8 [.int .i64 0] (.t 22) (.t 22)),oP 9 (.new 36 [.nils]),jW 1 9 23] (.seq (rS [jL 24 9,jK 25 1 24,jI 26 0] (.block 0 (.loop (rS [jB 27
 .lss 26 25] (.seq (kE 27 0) (.seq (.block 1 (rS [jM 28 26,jM 10 28] (rS [jM 29 8,jM 30 10,jC 31 95 [.t 29,.t 30],jK 32 1 31,jI 33 0] (.block 2 (.loop (rS [jB 34 .lss 33 32] (.seq (kE 34 2) (.seq (.block 3 (rS [jM 35 33,jX 36 1 31 33,jL 37 36,jM 11 35,jM 12 37] (rS [jM 38 12,jD 39 .eql
 38 1] (.cond (.t 39) (.region [jL 40 9,jM 41 10,jX 42 1 40 41,jL 43 42,jM 44 1,jM 45 11,jX 46 1 44 45,jL 47 46,jB 48 .add 43 47,jX 49 1 40 41,jW 1 49 48]) .skip)))) (.region [jD 50 .add 33 1,jM 33 50]))))))))) (.region [jD 51 .add 26 1,jM 26 51]))))))) (rS [jM 53 8,jM 54 2,oP 55
 (.mkfn 97 [.t 3]),oP 56 (.mkfn 98 [.t 9,.t 3]),jC 57 96 [.t 53,.t 54,cI 1000,.t 55,.t 56],jM 52 57,jE 58 0 52,jE 59 1 52,jZ 13 77,jW 4 13 58,jM 14 59] (.seq (rS [jM 60 14,jJ 61 60] (.cond (.t 61) (rS [jY 62,jW 4 6 62,jI 7 3] .ret) .skip)) (rS [jQ 64 13,jC 65 69 [.t 64],jM 63 65,
 jE 66 0 63,jE 67 1 63,jZ 15 25,jW 4 15 66,jM 16 67] (rS [jM 69 8,jC 70 99 [.t 69],jM 68 70,jE 71 0 68,jE 72 1 68,jZ 17 25,jW 4 17 71,jM 18 72] (rS [jQ 73 15,jM 74 16,jQ 75 17,jM 76 18,jC 77 88 [.t 73,.t 74,.t 75,.t 76],jE 78 0 77,jE 79 1 77,jW 4 6 78,jM 7 79] .ret))))))))⟩
theorem irOk47 : irC Tryz.f47 = some ir47:=by kernel_rfl
def ir56 : BFun:=⟨[.tmp 2],rS [jF 2 false] (rS [jM 3 0,jC 4 45 [.t 3,cI 0,cI 1000000000],jM 2 4] .ret)⟩
theorem irOk56 : irC Tryz.f56 = some ir56:=by kernel_rfl
def ir57 : BFun:=⟨[.tmp 2],rS [oP 2 (.mov (.c (.str ⟨#[]⟩)))] (rS [oP 3 (.mov (.c (.str ⟨#[]⟩)))] (.seq (.block 0 (.loop (.seq (rS [jM 4 0,jD 5 .gtr 4 0] (kE 5 0)) (.seq (.block 1 (.region [jM 8 3,jM 9 0,jD 10 .rem 9 2,jM 11 0,jD 12 .rem 11 2,jD 13 .add 12 1,oP 14 (.sslice (.c (.str
 ⟨#[97,98]⟩)) (some (.t 10)) (some (.t 13))),jB 15 .add 8 14,jM 3 15])) (.region [jM 6 0,jD 7 .quo 6 2,jM 0 7]))))) (rS [jM 16 3,jM 2 16] .ret)))⟩
theorem irOk57 : irC Tryz.f57 = some ir57:=by kernel_rfl
def ir58 : BFun:=⟨[.tmp 2],rS [jT 1 25 0,jF 2 false] (rS [jA 8 2 1,jL 9 8,jK 10 1 9,jM 3 10] (.seq (rS [jA 11 0 1,jL 12 11,jC 13 46 [.t 12],jJ 14 13,jM 15 14,oG 16 15 false (.mov (.t 3)),oG 17 15 false (.call (.c (.fn 45 [])) [.t 16,cI 1,cI 150]),oG 18 15 false (.not (.t 17)),jP 19
 15 18 true,jM 20 19,oG 21 20 false (.lea 3 (.t 1)),oG 22 20 false (.load none none (.t 21)),oG 23 20 false (.len 1 (.t 22)),oG 24 20 false (.mov (.t 3)),oG 25 20 false (.bin .neq (.t 23) (.t 24)),jP 26 20 25 true,jM 27 26,oG 28 27 false (.lea 1 (.t 1)),oG 29 27 false (.load none none (.t
 28)),oG 30 27 false (.mov (.t 3)),oG 31 27 false (.bin .sub (.t 30) (cI 1)),oG 32 27 false (.call (.c (.fn 45 [])) [.t 29,cI 0,.t 31]),oG 33 27 false (.not (.t 32)),jP 34 27 33 true] (.cond (.t 34) (rS [jF 2 false] .ret) .skip)) (.seq (rS [jA 35 3 1,jL 36 35,jK 37 1 36,jI 38 0] (.block 0
 (.loop (rS [jB 39 .lss 38 37] (.seq (kE 39 0) (.seq (.block 1 (rS [jX 40 1 36 38,jL 41 40,jM 5 41] (.seq (rS [jM 42 5,jK 43 1 42,jA 44 0 1,jL 45 44,jC 46 94 [.t 45],jB 47 .neq 43 46] (.cond (.t 47) (rS [jF 2 false] .ret) .skip)) (rS [jM 48 5,jK 49 1 48,jI 50 0] (.block 2 (.loop (rS [jB 51
 .lss 50 49] (.seq (kE 51 2) (.seq (.block 3 (rS [jX 52 1 48 50,jL 53 52,jM 7 53] (rS [jM 54 7,jM 55 3,jD 56 .sub 55 1,jC 57 45 [.t 54,cI 0,.t 56],jJ 58 57] (.cond (.t 58) (rS [jF 2 false] .ret) .skip)))) (.region [jD 59 .add 50 1,jM 50 59])))))))))) (.region [jD 60 .add 38 1,jM 38
 60]))))))) (rS [jF 2 true] .ret))))⟩
theorem irOk58 : irC Tryz.f58 = some ir58:=by kernel_rfl
def ir59 : BFun:=⟨[.tmp 2],rS [jF 2 false] (.seq (rS [jM 5 0,jK 6 1 5,jI 7 0] (.block 0 (.loop (rS [jB 8 .lss 7 6] (.seq (kE 8 0) (.seq (.block 1 (rS [jX 9 1 5 7,jL 10 9,jM 4 10] (rS [jM 11 4,jC 12 63 [.t 11],jJ 13 12] (.cond (.t 13) (rS [jF 2 false] .ret) .skip)))) (.region [jD 14 .add 7
 1,jM 7 14]))))))) (rS [jF 2 true] .ret))⟩
theorem irOk59 : irC Tryz.f59 = some ir59:=by kernel_rfl
def ir60 : BFun:=⟨[.cell 2 (some 4)],rS [jT 1 25 0,jZ 2 77] (rS [jA 9 0 1,oP 10 (.load (some 25) none (.t 9)),jA 11 1 1,oP 12 (.load (some 25) none (.t 11)),jA 13 2 1,jL 14 13,⟨some 15,.call (.c (.fn 106 [])) [.t 14],none,[25]⟩,oP 16 (.build [.int .i64 0,.int .i64 0,.nils,.nils]
 [(0,1,.t 10),(1,1,.t 12),(2,1,.t 15)]),jZ 3 77,jW 4 3 16] (.seq (rS [jA 17 3 1,jL 18 17,jK 19 1 18,jI 20 0] (.block 0 (.loop (rS [jB 21 .lss 20 19] (.seq (kE 21 0) (.seq (.block 1 (rS [jX 22 1 18 20,jL 23 22,jM 5 23] (rS [oP 6 (.mov (.c .nils))] (.seq (rS [jM 24 5,jK 25 1 24,jI 26
 0] (.block 2 (.loop (rS [jB 27 .lss 26 25] (.seq (kE 27 2) (.seq (.block 3 (rS [jX 28 1 24 26,jL 29 28,jM 8 29] (.region [jM 30 6,jM 31 8,oP 32 (.mk 3 1 [.int .i64 0] [(0,1,.t 31)]),oP 33 (.app 3 1 8 (.t 30) (.t 32)),jM 6 33]))) (.region [jD 34 .add 26 1,jM 26 34]))))))) (.region [jA 35 3
 3,jL 36 35,jM 37 6,oP 38 (.mk 80 1 [.nils] [(0,1,.t 37)]),oP 39 (.app 80 1 24 (.t 36) (.t 38)),jA 40 3 3,jW 1 40 39]))))) (.region [jD 41 .add 20 1,jM 20 41]))))))) (rS [jQ 42 3,jW 4 2 42] .ret)))⟩
theorem irOk60 : irC Tryz.f60 = some ir60:=by kernel_rfl
def ir61 : BFun:=⟨[.tmp 4],rS [jT 2 77 0,jF 4 false] (rS [jA 8 1 2,jL 9 8,jM 5 9] (.seq (rS [jM 10 1,jK 11 1 10,jI 12 0] (.block 0 (.loop (rS [jB 13 .lss 12 11] (.seq (kE 13 0) (.seq (.block 1 (rS [jX 14 1 10 12,jL 15 14,jM 7 15] (.region [jA 16 3 2,jL 17 16,jM 18 5,jX 19 1 17 18,jL
 20 19,jM 21 7,jX 22 1 20 21,jL 23 22,jM 5 23]))) (.region [jD 24 .add 12 1,jM 12 24]))))))) (rS [jA 25 2 2,jL 26 25,jM 27 5,jX 28 1 26 27,jL 29 28,jM 4 29] .ret)))⟩
theorem irOk61 : irC Tryz.f61 = some ir61:=by kernel_rfl
def ir62 : BFun:=⟨[.tmp 2],rS [oP 2 (.mov (.c .nils))] (rS [jI 3 0] (.seq (rS [jM 12 0,jK 13 1 12,jI 14 0] (.block 0 (.loop (rS [jB 15 .lss 14 13] (.seq (kE 15 0) (.seq (.block 1 (rS [jX 16 1 12 14,jL 17 16,jM 5 17] (.region [jM 18 3,jM 19 5,jK 20 0 19,oP 21 (.imax (.t 18) (.t 20)),jM 3
 21]))) (.region [jD 22 .add 14 1,jM 14 22]))))))) (rS [oP 6 (.mov (.c .nils))] (.seq (rS [jI 7 0] (.block 2 (.loop (.seq (rS [jM 23 7,jM 24 3,jB 25 .lss 23 24] (kE 25 2)) (.seq (.block 3 (rS [oP 8 (.mov (.c .nils))] (.seq (rS [jM 28 0,jK 29 1 28,jI 30 0] (.block 4 (.loop (rS [jB 31 .lss 30
 29] (.seq (kE 31 4) (.seq (.block 5 (rS [jX 32 1 28 30,jL 33 32,jM 10 33] (rS [jI 11 2] (.seq (rS [jM 34 7,jM 35 10,jK 36 0 35,jB 37 .lss 34 36] (.cond (.t 37) (.region [jM 38 10,jM 39 7,oP 40 (.idxs (.t 38) (.t 39)),oP 41 (.bin .sub (.t 40) (.c (.int .u8 97))),oP 42 (.conv .i64 (.t 41)),
 jM 11 42]) .skip)) (.region [jM 43 8,jM 44 11,oP 45 (.mk 3 1 [.int .i64 0] [(0,1,.t 44)]),oP 46 (.app 3 1 8 (.t 43) (.t 45)),jM 8 46]))))) (.region [jD 47 .add 30 1,jM 30 47]))))))) (.region [jM 48 6,jM 49 8,jC 50 107 [.t 49],oP 51 (.mk 3 1 [.int .i64 0] [(0,1,.t 50)]),oP 52 (.app 3 1
 8 (.t 48) (.t 51)),jM 6 52])))) (.region [jM 26 7,jD 27 .add 26 1,jM 7 27])))))) (rS [jM 53 6,jM 2 53] .ret)))))⟩
theorem irOk62 : irC Tryz.f62 = some ir62:=by kernel_rfl
def ir63 : BFun:=⟨[.tmp 2],rS [jF 2 false] (rS [jM 3 0,jK 4 0 3,jD 5 .leq 4 40,jM 6 5,oG 7 6 true (.mov (.t 0)),oG 8 6 true (.call (.c (.fn 108 [])) [.t 7,.c (.str ⟨#[97,98]⟩)]),oG 9 6 true (.bin .eql (.t 8) (.c (.str ⟨#[]⟩))),oP 10 (.pick (.t 6) (.t 9) (.c (.bool false))),jM 2 10]
 .ret)⟩
theorem irOk63 : irC Tryz.f63 = some ir63:=by kernel_rfl
def ir64 : BFun:=⟨[.tmp 4],rS [jF 4 false] (rS [jM 5 0,jM 6 1,jC 7 109 [.t 5,.t 6],jM 4 7] .ret)⟩
theorem irOk64 : irC Tryz.f64 = some ir64:=by kernel_rfl
def ir65 : BFun:=⟨[.tmp 2],rS [jI 2 0] (rS [jI 3 0] (.seq (rS [jM 5 0,jK 6 0 5,jD 7 .sub 6 1,jM 4 7] (.block 0 (.loop (.seq (rS [jM 8 4,jD 9 .geq 8 0] (kE 9 0)) (.seq (.block 1 (.region [jM 12 3,oP 13 (.bin .mul (cI 2) (.t 12)),jM 14 0,jM 15 4,oP 16 (.idxs (.t 14) (.t 15)),oP 17 (.bin
 .sub (.t 16) (.c (.int .u8 97))),oP 18 (.conv .i64 (.t 17)),jB 19 .add 13 18,jM 3 19])) (.region [jM 10 4,jD 11 .sub 10 1,jM 4 11])))))) (rS [jM 20 3,jM 2 20] .ret)))⟩
theorem irOk65 : irC Tryz.f65 = some ir65:=by kernel_rfl
def ir66 : BFun:=⟨[.cell 10 (some 4),.tmp 11],rS [jZ 10 77,jF 11 false] (rS [jM 22 0,oP 23 (.build [.int .i64 0,.int .i64 0,.nils,.nils] [(0,1,.t 22)]),jZ 12 77,jW 4 12 23] (rS [oP 24 .mkmap,jM 25 1,oS (.mset 0 (.t 24) (.t 25) (cI 0)),jM 26 24,jM 13 26] (rS [jM 27 1,oP 28 (.mk 3 1
 [.int .i64 0] [(0,1,.t 27)]),jM 14 28] (.seq (rS [jI 15 0] (.block 0 (.loop (.seq (rS [jM 29 15,jM 30 14,jK 31 1 30,jB 32 .lss 29 31] (kE 32 0)) (.seq (.block 1 (rS [jM 35 14,jM 36 15,jX 37 1 35 36,jL 38 37,jM 16 38] (rS [oP 17 (.mov (.c .nils))] (.seq (rS [jI 18 0] (.block 2 (.loop
 (.seq (rS [jM 39 18,jM 40 0,jC 41 94 [.t 40],jB 42 .lss 39 41] (kE 42 2)) (.seq (.block 3 (rS [jM 45 4,jM 46 16,jM 47 18,oP 48 (.call (.t 45) [.t 46,.t 47]),jM 19 48] (rS [jM 50 13,jM 51 19,oP 52 (.look 0 true (.int .i64 0) (.t 50) (.t 51)),jM 49 52,jE 53 0 49,jE 54 1 49,jM 20 53,jM
 21 54] (.seq (rS [jM 55 21,jJ 56 55] (.cond (.t 56) (rS [jM 57 14,jK 58 1 57,jM 20 58] (rS [jM 59 13,jM 60 19,jM 61 20,oS (.mset 0 (.t 59) (.t 60) (.t 61))] (rS [jM 62 14,jM 63 19,oP 64 (.mk 3 1 [.int .i64 0] [(0,1,.t 63)]),oP 65 (.app 3 1 8 (.t 62) (.t 64)),jM 14 65] (rS [jM 66 2,jD
 67 .gtr 66 0,jM 68 67,oG 69 68 true (.mov (.t 14)),oG 70 68 true (.len 1 (.t 69)),oG 71 68 true (.mov (.t 2)),oG 72 68 true (.bin .gtr (.t 70) (.t 71)),oP 73 (.pick (.t 68) (.t 72) (.c (.bool false)))] (.cond (.t 73) (rS [jY 74,jW 4 10 74,jF 11 false] .ret) .skip))))) .skip)) (.region [jM
 75 17,jM 76 20,oP 77 (.mk 3 1 [.int .i64 0] [(0,1,.t 76)]),oP 78 (.app 3 1 8 (.t 75) (.t 77)),jM 17 78]))))) (.region [jM 43 18,jD 44 .add 43 1,jM 18 44])))))) (rS [jA 79 2 12,oP 80 (.load (some 77) none (.t 79)),jM 81 3,jM 82 16,⟨some 83,.call (.t 81) [.t 82],none,[77]⟩,oP 84 (.mk
 4 1 [.bool false] [(0,1,.t 83)]),oP 85 (.app 4 1 1 (.t 80) (.t 84)),jA 86 2 12,jW 1 86 85] (.region [jA 87 3 12,jL 88 87,jM 89 17,oP 90 (.mk 80 1 [.nils] [(0,1,.t 89)]),oP 91 (.app 80 1 24 (.t 88) (.t 90)),jA 92 3 12,jW 1 92 91])))))) (.region [jM 33 15,jD 34 .add 33 1,jM 15
 34])))))) (rS [jQ 93 12,jW 4 10 93,jF 11 true] .ret)))))⟩
theorem irOk66 : irC Tryz.f66 = some ir66:=by kernel_rfl
def ir67 : BFun:=⟨[.tmp 2],rS [jF 2 false] (rS [jM 3 0,jD 4 .eql 3 1,jM 2 4] .ret)⟩
theorem irOk67 : irC Tryz.f67 = some ir67:=by kernel_rfl
def ir68 : BFun:=⟨[.tmp 4],rS [jI 4 0] (rS [jM 5 1,jM 4 5] .ret)⟩
theorem irOk68 : irC Tryz.f68 = some ir68:=by kernel_rfl
def ir69 : BFun:=⟨[.cell 2 (some 4),.tmp 3],rS [jT 1 77 0,jZ 2 25,jI 3 0] (rS [jQ 4 1,jC 5 110 [.t 4],jC 6 111 [.t 5],jE 7 0 6,jE 8 1 6,jW 4 2 7,jM 3 8] .ret)⟩
theorem irOk69 : irC Tryz.f69 = some ir69:=by kernel_rfl
def ir70 : BFun:=⟨[.cell 4 (some 4),.tmp 5],rS [jT 2 25 0,jZ 4 25,jI 5 0] (.seq (rS [jQ 9 2,jM 10 1,jC 11 112 [.t 9,.t 10],jM 6 11] (rS [jM 12 6,jD 13 .neq 12 0] (.cond (.t 13) (rS [jY 14,jM 15 6,jW 4 4 14,jM 5 15] .ret) .skip))) (rS [jQ 17 2,jC 18 113 [.t 17],jM 19 1,jC 20 114 [.t
 18,.t 19],jM 16 20,jE 21 0 16,jE 22 1 16,jZ 7 77,jW 4 7 21,jM 8 22] (.seq (rS [jM 23 8,jJ 24 23] (.cond (.t 24) (rS [jY 25,jW 4 4 25,jI 5 3] .ret) .skip)) (rS [jQ 26 7,jC 27 69 [.t 26],jE 28 0 27,jE 29 1 27,jW 4 4 28,jM 5 29] .ret))))⟩
theorem irOk70 : irC Tryz.f70 = some ir70:=by kernel_rfl
def ir88 : BFun:=⟨[.cell 8 (some 4),.tmp 9],rS [jT 4 25 0,jT 6 25 2,jZ 8 25,jI 9 0] (.seq (.block 0 (rS [jM 11 1,jD 12 .neq 11 0,jM 10 12] (.cond (.t 10) (rS [jY 13,jM 14 1,jW 4 8 13,jM 9 14] .ret) (rS [jM 16 3,jD 17 .neq 16 0,jM 15 17] (.cond (.t 15) (rS [jY 18,jM 19 3,jW 4 8 18,
 jM 9 19] .ret) .skip))))) (rS [jQ 20 4,jQ 21 6,jC 22 137 [.t 20,.t 21],jE 23 0 22,jE 24 1 22,jW 4 8 23,jM 9 24] .ret))⟩
theorem irOk88 : irC Tryz.f88 = some ir88:=by kernel_rfl
def ir94 : BFun:=⟨[.tmp 2],rS [jI 2 0] (rS [jM 3 0,jC 4 148 [.t 3],jD 5 .sub 4 1,jM 2 5] .ret)⟩
theorem irOk94 : irC Tryz.f94 = some ir94:=by kernel_rfl
def ir95 : BFun:=⟨[.tmp 4],rS [oP 4 (.mov (.c .nils))] (rS [oP 5 (.mov (.c .nils))] (.seq (.block 0 (.loop (.seq (rS [jM 6 0,jD 7 .gtr 6 0] (kE 7 0)) (.seq (.block 1 (rS [jM 10 5,jM 11 1,jD 12 .rem 11 3,oP 13 (.mk 3 1 [.int .i64 0] [(0,1,.t 12)]),oP 14 (.app 3 1 8 (.t 10) (.t 13)),jM 5
 14] (.region [jM 15 1,jD 16 .quo 15 3,jM 1 16]))) (.region [jM 8 0,jD 9 .sub 8 1,jM 0 9]))))) (rS [jM 17 5,jM 4 17] .ret)))⟩
theorem irOk95 : irC Tryz.f95 = some ir95:=by kernel_rfl
def ir96 : BFun:=⟨[.cell 10 (some 4),.tmp 11],rS [jZ 10 77,jF 11 false] (rS [jM 22 0,oP 23 (.build [.int .i64 0,.int .i64 0,.nils,.nils] [(0,1,.t 22)]),jZ 12 77,jW 4 12 23] (rS [oP 24 .mkmap,jM 25 1,oS (.mset 0 (.t 24) (.t 25) (cI 0)),jM 26 24,jM 13 26] (rS [jM 27 1,oP 28 (.mk 2 1
 [.int .i64 0] [(0,1,.t 27)]),jM 14 28] (.seq (rS [jI 15 0] (.block 0 (.loop (.seq (rS [jM 29 15,jM 30 14,jK 31 1 30,jB 32 .lss 29 31] (kE 32 0)) (.seq (.block 1 (rS [jM 35 14,jM 36 15,jX 37 1 35 36,jL 38 37,jM 16 38] (rS [oP 17 (.mov (.c .nils))] (.seq (rS [jI 18 0] (.block 2 (.loop
 (.seq (rS [jM 39 18,jM 40 0,jC 41 94 [.t 40],jB 42 .lss 39 41] (kE 42 2)) (.seq (.block 3 (rS [jM 45 4,jM 46 16,jM 47 18,oP 48 (.call (.t 45) [.t 46,.t 47]),jM 19 48] (rS [jM 50 13,jM 51 19,oP 52 (.look 0 true (.int .i64 0) (.t 50) (.t 51)),jM 49 52,jE 53 0 49,jE 54 1 49,jM 20 53,jM
 21 54] (.seq (rS [jM 55 21,jJ 56 55] (.cond (.t 56) (rS [jM 57 14,jK 58 1 57,jM 20 58] (rS [jM 59 13,jM 60 19,jM 61 20,oS (.mset 0 (.t 59) (.t 60) (.t 61))] (rS [jM 62 14,jM 63 19,oP 64 (.mk 2 1 [.int .i64 0] [(0,1,.t 63)]),oP 65 (.app 2 1 8 (.t 62) (.t 64)),jM 14 65] (rS [jM 66 2,jD
 67 .gtr 66 0,jM 68 67,oG 69 68 true (.mov (.t 14)),oG 70 68 true (.len 1 (.t 69)),oG 71 68 true (.mov (.t 2)),oG 72 68 true (.bin .gtr (.t 70) (.t 71)),oP 73 (.pick (.t 68) (.t 72) (.c (.bool false)))] (.cond (.t 73) (rS [jY 74,jW 4 10 74,jF 11 false] .ret) .skip))))) .skip)) (.region [jM
 75 17,jM 76 20,oP 77 (.mk 3 1 [.int .i64 0] [(0,1,.t 76)]),oP 78 (.app 3 1 8 (.t 75) (.t 77)),jM 17 78]))))) (.region [jM 43 18,jD 44 .add 43 1,jM 18 44])))))) (rS [jA 79 2 12,oP 80 (.load (some 77) none (.t 79)),jM 81 3,jM 82 16,⟨some 83,.call (.t 81) [.t 82],none,[77]⟩,oP 84 (.mk
 4 1 [.bool false] [(0,1,.t 83)]),oP 85 (.app 4 1 1 (.t 80) (.t 84)),jA 86 2 12,jW 1 86 85] (.region [jA 87 3 12,jL 88 87,jM 89 17,oP 90 (.mk 80 1 [.nils] [(0,1,.t 89)]),oP 91 (.app 80 1 24 (.t 88) (.t 90)),jA 92 3 12,jW 1 92 91])))))) (.region [jM 33 15,jD 34 .add 33 1,jM 15
 34])))))) (rS [jQ 93 12,jW 4 10 93,jF 11 true] .ret)))))⟩
theorem irOk96 : irC Tryz.f96 = some ir96:=by kernel_rfl
def ir97 : BFun:=⟨[.tmp 3],rS [jF 3 false] (rS [jM 4 0,jD 5 .eql 4 0,jM 6 5,oG 7 6 false (.mov (.t 0)),oG 8 6 false (.bin .gtr (.t 7) (cI 0)),oG 9 6 false (.mov (.t 8)),oG 10 9 true (.mov (.t 0)),oG 11 9 true (.bin .neq (.t 10) (cI 1099511627776)),oG 12 6 false (.pick (.t 9) (.t 11) (.c
 (.bool false))),oG 13 6 false (.mov (.t 12)),oG 14 13 true (.load none none (.t 1)),oG 15 13 true (.bin .eql (.t 14) (cI 2)),oG 16 6 false (.pick (.t 13) (.t 15) (.c (.bool false))),jP 17 6 16 true,jM 3 17] .ret)⟩
theorem irOk97 : irC Tryz.f97 = some ir97:=by kernel_rfl
def ir98 : BFun:=⟨[.tmp 6],rS [jI 6 0] (.seq (rS [jM 8 0,jD 9 .eql 8 1099511627776] (.cond (.t 9) (rS [jI 6 1099511627776] .ret) .skip)) (rS [jM 10 0,jL 11 2,jM 12 1,jX 13 1 11 12,jL 14 13,jB 15 .sub 10 14,jM 7 15] (.seq (rS [jL 16 3,jD 17 .eql 16 1,jM 18 17,oG 19 18 true (.mov (.t
 7)),oG 20 18 true (.bin .rem (.t 19) (cI 2)),oG 21 18 true (.bin .neq (.t 20) (cI 0)),oP 22 (.pick (.t 18) (.t 21) (.c (.bool false)))] (.cond (.t 22) (rS [jI 6 1099511627776] .ret) .skip)) (rS [jM 23 7,oP 24 (.bin .shr (.t 23) (.c (.int .u64 1))),jM 6 24] .ret))))⟩
theorem irOk98 : irC Tryz.f98 = some ir98:=by kernel_rfl
def ir99 : BFun:=⟨[.cell 2 (some 4),.tmp 3],rS [jZ 2 25,jI 3 0] (rS [jM 7 0,oP 8 (.sslice (.c (.str ⟨#[120,121,122]⟩)) none (some (.t 7))),jC 4 25 [],jC 5 41 [.t 4,.c .nils],oP 6 (.build [.int .i64 0,.int .i64 0,.nils,.nils,.nils] [(0,5,.t 5)]),jC 9 149 [.t 6,.t 8],jE 10 0 9,
 jE 11 1 9,jW 4 2 10,jM 3 11] .ret)⟩
theorem irOk99 : irC Tryz.f99 = some ir99:=by kernel_rfl
def ir106 : BFun:=⟨[.tmp 2],rS [oP 2 (.mov (.c .nils))] (.seq (rS [jM 3 0,oP 4 (.isnil false (.t 3))] (.cond (.t 4) (rS [oP 2 (.mov (.c .nils))] .ret) .skip)) (rS [oP 5 (.mk 4 0 [] []),jM 6 0,oP 7 (.app 4 1 1 (.t 5) (.t 6)),jM 2 7] .ret))⟩
theorem irOk106 : irC Tryz.f106 = some ir106:=by kernel_rfl
def ir107 : BFun:=⟨[.tmp 2],rS [jI 2 0] (rS [jI 3 0] (.seq (rS [jM 5 0,jK 6 1 5,jD 7 .sub 6 1,jM 4 7] (.block 0 (.loop (.seq (rS [jM 8 4,jD 9 .geq 8 0] (kE 9 0)) (.seq (.block 1 (.region [jM 12 3,oP 13 (.bin .mul (cI 3) (.t 12)),jM 14 0,jM 15 4,jX 16 1 14 15,jL 17 16,jB 18 .add 13 17,
 jM 3 18])) (.region [jM 10 4,jD 11 .sub 10 1,jM 4 11])))))) (rS [jM 19 3,jM 2 19] .ret)))⟩
theorem irOk107 : irC Tryz.f107 = some ir107:=by kernel_rfl
def ir108 : BFun:=⟨[.tmp 4],rS [oP 4 (.mov (.c (.str ⟨#[]⟩)))] (.seq (rS [jM 7 0,oP 8 (.bin .eql (.t 7) (.c (.str ⟨#[]⟩))),jM 9 8,oG 10 9 false (.mov (.t 1)),oG 11 9 false (.bin .eql (.t 10) (.c (.str ⟨#[]⟩))),jP 12 9 11 true] (.cond (.t 12) (rS [jM 13 0,jM 4 13] .ret) .skip)) (.seq (rS
 [jM 14 1,jK 15 0 14,jD 16 .eql 15 1,jM 17 16,oG 18 17 true (.mov (.t 1)),oG 19 17 true (.idxs (.t 18) (cI 0)),oG 20 17 true (.bin .lss (.t 19) (.c (.int .u8 128))),oP 21 (.pick (.t 17) (.t 20) (.c (.bool false)))] (.cond (.t 21) (rS [jM 22 0,jM 23 1,oP 24 (.idxs (.t 23) (cI 0)),jM 26 1,
 oP 27 (.idxs (.t 26) (cI 0)),jC 25 158 [.t 22,.t 24],jC 28 157 [.t 25,.t 27],jM 4 28] .ret) .skip)) (.seq (rS [jM 30 1,jC 31 159 [.t 30],jM 29 31,jE 32 0 29,jE 33 1 29,oP 5 (.new 143 [.bool false,.bool false,.bool false,.bool false,.bool false,.bool false,.bool false,.bool false,
 .bool false,.bool false,.bool false,.bool false,.bool false,.bool false,.bool false,.bool false,.bool false,.bool false,.bool false,.bool false,.bool false,.bool false,.bool false,.bool false,.bool false,.bool false,.bool false,.bool false,.bool false,.bool false,.bool false,
 .bool false,.bool false,.bool false,.bool false,.bool false,.bool false,.bool false,.bool false,.bool false,.bool false,.bool false,.bool false,.bool false,.bool false,.bool false,.bool false,.bool false,.bool false,.bool false,.bool false,.bool false,.bool false,.bool false,
 .bool false,.bool false,.bool false,.bool false,.bool false,.bool false,.bool false,.bool false,.bool false,.bool false,.bool false,.bool false,.bool false,.bool false,.bool false,.bool false,.bool false,.bool false,.bool false,.bool false,.bool false,.bool false,.bool false,
 .bool false,.bool false,.bool false,.bool false,.bool false,.bool false,.bool false,.bool false,.bool false,.bool false,.bool false,.bool false,.bool false,.bool false,.bool false,.bool false,.bool false,.bool false,.bool false,.bool false,.bool false,.bool false,.bool false,
 .bool false,.bool false,.bool false,.bool false,.bool false,.bool false,.bool false,.bool false,.bool false,.bool false,.bool false,.bool false,.bool false,.bool false,.bool false,.bool false,.bool false,.bool false,.bool false,.bool false,.bool false,.bool false,.bool false,
 .bool false,.bool false,.bool false,.bool false,.bool false,.bool false,.bool false,.bool false,.bool false,.bool false,.bool false,.bool false,.bool false,.bool false,.bool false,.bool false,.bool false,.bool false,.bool false,.bool false,.bool false,.bool false,.bool false,
 .bool false,.bool false,.bool false,.bool false,.bool false,.bool false,.bool false,.bool false,.bool false,.bool false,.bool false,.bool false,.bool false,.bool false,.bool false,.bool false,.bool false,.bool false,.bool false,.bool false,.bool false,.bool false,.bool false,
 .bool false,.bool false,.bool false,.bool false,.bool false,.bool false,.bool false,.bool false,.bool false,.bool false,.bool false,.bool false,.bool false,.bool false,.bool false,.bool false,.bool false,.bool false,.bool false,.bool false,.bool false,.bool false,.bool false,
 .bool false,.bool false,.bool false,.bool false,.bool false,.bool false,.bool false,.bool false,.bool false,.bool false,.bool false,.bool false,.bool false,.bool false,.bool false,.bool false,.bool false,.bool false,.bool false,.bool false,.bool false,.bool false,.bool false,
 .bool false,.bool false,.bool false,.bool false,.bool false,.bool false,.bool false,.bool false,.bool false,.bool false,.bool false,.bool false,.bool false,.bool false,.bool false,.bool false,.bool false,.bool false,.bool false,.bool false,.bool false,.bool false,.bool false,
 .bool false,.bool false,.bool false,.bool false,.bool false,.bool false,.bool false,.bool false,.bool false,.bool false,.bool false,.bool false,.bool false,.bool false,.bool false,.bool false,.bool false,.bool false]),jW 256 5 32,jM 6 33] (rS [jM 34 6] (.cond (.t 34) (rS [jM 35
 0,jC 36 161 [.t 35,.t 5],jC 37 160 [.t 36,.t 5],jM 4 37] .ret) .skip))) (rS [jM 38 0,jM 39 1,jC 40 163 [.t 38,.t 39],jM 41 1,jC 42 162 [.t 40,.t 41],jM 4 42] .ret))))⟩
theorem irOk108 : irC Tryz.f108 = some ir108:=by kernel_rfl
def ir109 : BFun:=⟨[.tmp 4],rS [jF 4 false] (rS [jM 5 0,jK 6 0 5,jM 7 1,jK 8 0 7,jB 9 .geq 6 8,jM 10 9,oG 11 10 true (.mov (.t 0)),oG 12 10 true (.mov (.t 0)),oG 13 10 true (.len 0 (.t 12)),oG 14 10 true (.mov (.t 1)),oG 15 10 true (.len 0 (.t 14)),oG 16 10 true (.bin .sub (.t 13) (.t
 15)),oG 17 10 true (.sslice (.t 11) (some (.t 16)) none),oG 18 10 true (.mov (.t 1)),oG 19 10 true (.bin .eql (.t 17) (.t 18)),oP 20 (.pick (.t 10) (.t 19) (.c (.bool false))),jM 4 20] .ret)⟩
theorem irOk109 : irC Tryz.f109 = some ir109:=by kernel_rfl
def ir110 : BFun:=⟨[.cell 2 (some 4)],rS [jT 1 77 0,jZ 2 77] (rS [jA 9 0 1,jL 10 9,jC 11 94 [.t 10],oP 12 (.mksl 3 8 [.int .i64 0] (.t 11) (.t 11)),oP 3 (.new 80 [.nils]),jW 1 3 12] (.seq (rS [jL 13 3,jK 14 1 13,jI 15 0] (.block 0 (.loop (rS [jB 16 .lss 15 14] (.seq (kE 16 0) (.seq
 (.block 1 (rS [jM 17 15,jM 4 17] (rS [jA 18 0 1,jL 19 18,jM 20 4,jC 21 95 [.t 19,.t 20],jK 22 1 21,jI 23 0] (.block 2 (.loop (rS [jB 24 .lss 23 22] (.seq (kE 24 2) (.seq (.block 3 (rS [jM 25 23,jX 26 1 21 23,jL 27 26,jM 5 25,jM 6 27] (rS [jM 28 6,jD 29 .eql 28 2] (.cond (.t 29)
 (.region [jL 30 3,jM 31 4,jX 32 1 30 31,jL 33 32,jM 34 5,oP 35 (.bin .shl (cI 1) (.t 34)),jB 36 .or 33 35,jX 37 1 30 31,jW 1 37 36]) .skip)))) (.region [jD 38 .add 23 1,jM 23 38]))))))))) (.region [jD 39 .add 15 1,jM 15 39]))))))) (rS [jA 41 0 1,jL 42 41,jA 43 1 1,jL 44 43,oP 45
 (.build [.int .i64 0,.int .i64 0] [(0,1,.t 44)]),oP 46 (.mkfn 165 [.t 1]),oP 47 (.mkfn 166 [.t 3,.t 1]),jC 48 164 [.t 42,.t 45,cI 0,.t 46,.t 47],jM 40 48,jE 49 0 40,jE 50 1 40,jZ 7 77,jW 4 7 49,jM 8 50] (rS [jQ 51 7,jC 52 167 [.t 51],jW 4 2 52] .ret))))⟩
theorem irOk110 : irC Tryz.f110 = some ir110:=by kernel_rfl
def ir111 : BFun:=⟨[.cell 2 (some 4),.tmp 3],rS [jT 1 77 0,jZ 2 25,jI 3 0] (.seq (rS [jA 7 2 1,jL 8 7,jK 9 1 8,jD 10 .gtr 9 150] (.cond (.t 10) (rS [jY 11,jW 4 2 11,jI 3 3] .ret) .skip)) (rS [jA 12 0 1,oP 13 (.load (some 77) none (.t 12)),jA 14 1 1,oP 15 (.load (some 77) none (.t
 14)),jA 16 2 1,jL 17 16,⟨some 18,.call (.c (.fn 106 [])) [.t 17],none,[77]⟩,oP 19 (.build [.int .i64 0,.int .i64 0,.nils,.nils] [(0,1,.t 13),(1,1,.t 15),(2,1,.t 18)]),jZ 4 25,jW 4 4 19] (.seq (rS [jA 20 3 1,jL 21 20,jK 22 1 21,jI 23 0] (.block 0 (.loop (rS [jB 24 .lss 23 22]
 (.seq (kE 24 0) (.seq (.block 1 (rS [jX 25 1 21 23,jL 26 25,jM 6 26] (.region [jA 27 3 4,oP 28 (.load (some 25) none (.t 27)),jM 29 6,⟨some 30,.call (.c (.fn 168 [])) [.t 29],none,[25]⟩,oP 31 (.mk 36 1 [.nils] [(0,1,.t 30)]),oP 32 (.app 36 1 24 (.t 28) (.t 31)),jA 33 3 4,jW 1 33
 32]))) (.region [jD 34 .add 23 1,jM 23 34]))))))) (rS [jQ 35 4,jW 4 2 35,jI 3 0] .ret))))⟩
theorem irOk111 : irC Tryz.f111 = some ir111:=by kernel_rfl
def ir112 : BFun:=⟨[.tmp 4],rS [jT 2 25 0,jI 4 0] (.seq (.block 0 (rS [jQ 6 2,jC 7 58 [.t 6],jJ 8 7,jM 5 8] (.cond (.t 5) (rS [jI 4 1] .ret) (rS [jQ 10 2,jM 11 1,jC 12 169 [.t 10,.t 11],jJ 13 12,jM 14 13,oG 15 14 false (.lea 0 (.t 2)),oG 16 14 false (.load none none (.t 15)),oG 17 14
 false (.bin .eql (.t 16) (cI 1)),jP 18 14 17 true,jM 9 18] (.cond (.t 9) (rS [jI 4 2] .ret) .skip))))) (rS [jI 4 0] .ret))⟩
theorem irOk112 : irC Tryz.f112 = some ir112:=by kernel_rfl
def ir113 : BFun:=⟨[.cell 2 (some 4)],rS [jT 1 25 0,jZ 2 77] (rS [jQ 3 1,jC 4 60 [.t 3],jC 5 110 [.t 4],jW 4 2 5] .ret)⟩
theorem irOk113 : irC Tryz.f113 = some ir113:=by kernel_rfl
def ir114 : BFun:=⟨[.cell 4 (some 4),.tmp 5],rS [jT 2 77 0,jT 3 3 1,jZ 4 77,jF 5 false] (rS [jA 12 2 2,jL 13 12,jC 14 106 [.t 13],oP 6 (.new 22 [.nils]),jW 1 6 14] (rS [jA 15 0 2,jL 16 15,jD 17 .sub 16 1,oP 19 (.load (some 3) none (.t 3)),jA 21 0 2,oP 22 (.load (some 77) none (.t
 21)),jD 23 .sub 22 1,oP 25 (.load (some 3) none (.t 3)),⟨some 18,.call (.c (.fn 171 [])) [.t 17],none,[3,77]⟩,⟨some 20,.call (.c (.fn 170 [])) [.t 18,.t 19,cI 0],none,[77,3]⟩,⟨some 24,.call (.c (.fn 171 [])) [.t 23],none,[3]⟩,jC 26 170 [.t 24,.t 25,cI 1],oP 27 (.mk 3 2 [.int
 .i64 0,.int .i64 0] [(0,1,.t 20),(1,1,.t 26)]),jM 7 27] (.seq (rS [jF 8 true] (.block 0 (.loop (.seq (rS [jM 28 8] (kE 28 0)) (.block 1 (rS [jF 8 false] (rS [jA 29 3 2,jL 30 29,jK 31 1 30,jI 32 0] (.block 2 (.loop (rS [jB 33 .lss 32 31] (.seq (kE 33 2) (.seq (.block 3 (rS [jM 34 32,jX
 35 1 30 32,jL 36 35,jM 9 34,jM 10 36] (rS [jL 37 6,jM 38 9,jX 39 1 37 38,jL 40 39,jJ 41 40,jM 42 41,oG 43 42 true (.load none none (.t 6)),oG 44 42 true (.mov (.t 10)),oG 45 42 true (.mov (.t 7)),oG 46 42 true (.idx 1 (.t 45) (cI 0)),oG 47 42 true (.load none none (.t 46)),oG 48 42
 true (.idx 1 (.t 44) (.t 47)),oG 49 42 true (.load none none (.t 48)),oG 50 42 true (.idx 1 (.t 43) (.t 49)),oG 51 42 true (.load none none (.t 50)),oG 52 42 true (.mov (.t 51)),oG 53 52 false (.load none none (.t 6)),oG 54 52 false (.mov (.t 10)),oG 55 52 false (.mov (.t 7)),oG 56 52
 false (.idx 1 (.t 55) (cI 1)),oG 57 52 false (.load none none (.t 56)),oG 58 52 false (.idx 1 (.t 54) (.t 57)),oG 59 52 false (.load none none (.t 58)),oG 60 52 false (.idx 1 (.t 53) (.t 59)),oG 61 52 false (.load none none (.t 60)),oG 62 42 true (.pick (.t 52) (.c (.bool true)) (.t 61)),oP
 63 (.pick (.t 42) (.t 62) (.c (.bool false)))] (.cond (.t 63) (.region [jL 64 6,jM 65 9,jX 66 1 64 65,oS (.store none 1 (.t 66) (.c (.bool true))),jF 8 true]) .skip)))) (.region [jD 67 .add 32 1,jM 32 67]))))))))))))) (rS [jA 68 2 2,jL 69 68,jK 70 1 69,oP 71 (.mksl 4 1 [.bool false] (.t
 70) (.t 70)),jM 11 71] (rS [jM 72 11,jA 73 1 2,jL 74 73,jX 75 1 72 74,oS (.store none 1 (.t 75) (.c (.bool true)))] (rS [jA 76 0 2,oP 77 (.load (some 77) none (.t 76)),jD 78 .sub 77 1,jM 79 11,oP 81 (.mkfn 174 [.t 6]),oP 82 (.mkfn 175 [.t 2,.t 3]),⟨some 80,.call (.c (.fn 173 [])) [.t
 79],none,[77]⟩,jC 83 172 [.t 78,.t 80,cI 1000,.t 81,.t 82],jE 84 0 83,jE 85 1 83,jW 4 4 84,jM 5 85] .ret))))))⟩
theorem irOk114 : irC Tryz.f114 = some ir114:=by kernel_rfl
def ir126 : BFun:=⟨[.cell 4 (some 4),.tmp 5],rS [jT 2 25 0,jT 3 2 1,jZ 4 25,jI 5 0] (.seq (.block 0 (rS [jQ 7 2,jC 8 58 [.t 7],jJ 9 8,jM 6 9] (.cond (.t 6) (rS [jY 10,jW 4 4 10,jI 5 1] .ret) (rS [jL 12 3,jA 13 0 2,jL 14 13,jC 15 45 [.t 12,cI 0,.t 14],jJ 16 15,jM 17 16,oG 18 17
 false (.lea 0 (.t 2)),oG 19 17 false (.load none none (.t 18)),oG 20 17 false (.bin .eql (.t 19) (cI 3)),jP 21 17 20 true,jM 11 21] (.cond (.t 11) (rS [jY 22,jW 4 4 22,jI 5 2] .ret) .skip))))) (rS [jQ 23 2,jA 25 0 2,oP 26 (.load (some 25) none (.t 25)),jD 27 .add 26 1,oP 28 (.mkfn 184
 [.t 3]),⟨some 24,.call (.c (.fn 113 [])) [.t 23],none,[25]⟩,jC 29 183 [.t 24,.t 27,.t 28],jC 30 69 [.t 29],jE 31 0 30,jE 32 1 30,jW 4 4 31,jM 5 32] .ret))⟩
theorem irOk126 : irC Tryz.f126 = some ir126:=by kernel_rfl
def ir137 : BFun:=⟨[.cell 4 (some 4),.tmp 5],rS [jT 2 25 0,jT 3 25 1,jZ 4 25,jI 5 0] (rS [jQ 6 2,jQ 7 3,oP 8 (.call (.c (.fn 188 [])) [.t 6,.t 7,.c (.fn 190 [])]),jE 9 0 8,jE 10 1 8,jW 4 4 9,jM 5 10] .ret)⟩
theorem irOk137 : irC Tryz.f137 = some ir137:=by kernel_rfl
def ir148 : BFun:=⟨[.tmp 2],rS [jI 2 0] (rS [jI 3 1] (.seq (.block 0 (.loop (.seq (rS [jM 4 0,jD 5 .gtr 4 0] (kE 5 0)) (.seq (.block 1 (.region [jM 8 3,jD 9 .mul 8 3,jM 3 9])) (.region [jM 6 0,jD 7 .sub 6 1,jM 0 7]))))) (rS [jM 10 3,jM 2 10] .ret)))⟩
theorem irOk148 : irC Tryz.f148 = some ir148:=by kernel_rfl
def ir149 : BFun:=⟨[.cell 4 (some 4),.tmp 5],rS [jT 2 134 0,jZ 4 25,jI 5 0] (rS [jA 11 0 2,jA 12 0 11,jQ 13 12,jZ 6 25,jW 4 6 13] (rS [jQ 14 6,jZ 7 25,jW 4 7 14] (.seq (rS [jI 8 1] (.block 0 (.loop (.seq (rS [jM 15 8,jM 16 1,jK 17 0 16,jB 18 .lss 15 17] (kE 18 0)) (.seq (.block 1 (rS
 [jQ 22 6,jQ 23 7,jC 24 201 [.t 22,.t 23],jM 21 24,jE 25 0 21,jE 26 1 21,jZ 9 25,jW 4 9 25,jM 10 26] (.seq (rS [jM 27 10,jD 28 .neq 27 0] (.cond (.t 28) (rS [jY 29,jM 30 10,jW 4 4 29,jM 5 30] .ret) .skip)) (.region [jQ 31 9,jW 4 7 31])))) (.region [jM 19 8,jD 20 .add 19 1,jM 8
 20])))))) (rS [jQ 32 7,jW 4 4 32,jI 5 0] .ret))))⟩
theorem irOk149 : irC Tryz.f149 = some ir149:=by kernel_rfl
def ir159 : BFun:=⟨[.cell 2 (some 256),.tmp 3],rS [oP 2 (.new 143 [.bool false,.bool false,.bool false,.bool false,.bool false,.bool false,.bool false,.bool false,.bool false,.bool false,.bool false,.bool false,.bool false,.bool false,.bool false,.bool false,.bool false,.bool
 false,.bool false,.bool false,.bool false,.bool false,.bool false,.bool false,.bool false,.bool false,.bool false,.bool false,.bool false,.bool false,.bool false,.bool false,.bool false,.bool false,.bool false,.bool false,.bool false,.bool false,.bool false,.bool false,.bool
 false,.bool false,.bool false,.bool false,.bool false,.bool false,.bool false,.bool false,.bool false,.bool false,.bool false,.bool false,.bool false,.bool false,.bool false,.bool false,.bool false,.bool false,.bool false,.bool false,.bool false,.bool false,.bool false,.bool
 false,.bool false,.bool false,.bool false,.bool false,.bool false,.bool false,.bool false,.bool false,.bool false,.bool false,.bool false,.bool false,.bool false,.bool false,.bool false,.bool false,.bool false,.bool false,.bool false,.bool false,.bool false,.bool false,.bool
 false,.bool false,.bool false,.bool false,.bool false,.bool false,.bool false,.bool false,.bool false,.bool false,.bool false,.bool false,.bool false,.bool false,.bool false,.bool false,.bool false,.bool false,.bool false,.bool false,.bool false,.bool false,.bool false,.bool
 false,.bool false,.bool false,.bool false,.bool false,.bool false,.bool false,.bool false,.bool false,.bool false,.bool false,.bool false,.bool false,.bool false,.bool false,.bool false,.bool false,.bool false,.bool false,.bool false,.bool false,.bool false,.bool false,.bool
 false,.bool false,.bool false,.bool false,.bool false,.bool false,.bool false,.bool false,.bool false,.bool false,.bool false,.bool false,.bool false,.bool false,.bool false,.bool false,.bool false,.bool false,.bool false,.bool false,.bool false,.bool false,.bool false,.bool
 false,.bool false,.bool false,.bool false,.bool false,.bool false,.bool false,.bool false,.bool false,.bool false,.bool false,.bool false,.bool false,.bool false,.bool false,.bool false,.bool false,.bool false,.bool false,.bool false,.bool false,.bool false,.bool false,.bool
 false,.bool false,.bool false,.bool false,.bool false,.bool false,.bool false,.bool false,.bool false,.bool false,.bool false,.bool false,.bool false,.bool false,.bool false,.bool false,.bool false,.bool false,.bool false,.bool false,.bool false,.bool false,.bool false,.bool
 false,.bool false,.bool false,.bool false,.bool false,.bool false,.bool false,.bool false,.bool false,.bool false,.bool false,.bool false,.bool false,.bool false,.bool false,.bool false,.bool false,.bool false,.bool false,.bool false,.bool false,.bool false,.bool false,.bool
 false,.bool false,.bool false,.bool false,.bool false,.bool false,.bool false,.bool false,.bool false,.bool false,.bool false,.bool false,.bool false,.bool false,.bool false,.bool false,.bool false,.bool false,.bool false,.bool false,.bool false,.bool false,.bool false,.bool
 false,.bool false,.bool false,.bool false,.bool false,.bool false,.bool false,.bool false,.bool false]),jF 3 false] (.seq (rS [jI 4 0] (.block 0 (.loop (.seq (rS [jM 6 4,jM 7 0,jK 8 0 7,jB 9 .lss 6 8] (kE 9 0)) (.seq (.block 1 (rS [jM 12 0,jM 13 4,oP 14 (.idxs (.t 12) (.t 13)),jM 5
 14] (.seq (rS [jM 15 5,oP 16 (.bin .geq (.t 15) (.c (.int .u8 128)))] (.cond (.t 16) (rS [oP 17 (.load none (some 256) (.t 2)),jW 256 2 17,jF 3 false] .ret) .skip)) (.region [jM 18 5,oP 19 (.idxa 256 1 (.t 2) (.t 18)),oS (.store none 1 (.t 19) (.c (.bool true)))])))) (.region [jM 10 4,jD 11
 .add 10 1,jM 4 11])))))) (rS [oP 20 (.load none (some 256) (.t 2)),jW 256 2 20,jF 3 true] .ret))⟩
theorem irOk159 : irC Tryz.f159 = some ir159:=by kernel_rfl
def ir160 : BFun:=⟨[.tmp 4],rS [oP 4 (.mov (.c (.str ⟨#[]⟩)))] (.seq (.block 0 (.loop (.seq (rS [jM 5 0,jK 6 0 5,jD 7 .gtr 6 0] (kE 7 0)) (.block 1 (.seq (rS [jM 8 1,jM 9 0,oP 10 (.idxs (.t 9) (cI 0)),jC 11 206 [.t 8,.t 10],jJ 12 11] (.cond (.t 12) (.exit 0) .skip)) (.region [jM 13 0,oP
 14 (.sslice (.t 13) (some (cI 1)) none),jM 0 14])))))) (rS [jM 15 0,jM 4 15] .ret))⟩
theorem irOk160 : irC Tryz.f160 = some ir160:=by kernel_rfl
def ir161 : BFun:=⟨[.tmp 4],rS [oP 4 (.mov (.c (.str ⟨#[]⟩)))] (.seq (.block 0 (.loop (.seq (rS [jM 5 0,jK 6 0 5,jD 7 .gtr 6 0] (kE 7 0)) (.block 1 (.seq (rS [jM 8 1,jM 9 0,jM 10 0,jK 11 0 10,jD 12 .sub 11 1,oP 13 (.idxs (.t 9) (.t 12)),jC 14 206 [.t 8,.t 13],jJ 15 14] (.cond (.t 15)
 (.exit 0) .skip)) (.region [jM 16 0,jM 17 0,jK 18 0 17,jD 19 .sub 18 1,oP 20 (.sslice (.t 16) none (some (.t 19))),jM 0 20])))))) (rS [jM 21 0,jM 4 21] .ret))⟩
theorem irOk161 : irC Tryz.f161 = some ir161:=by kernel_rfl
def ir164 : BFun:=⟨[.cell 10 (some 4),.tmp 11],rS [jT 6 150 1,jZ 10 77,jF 11 false] (rS [jM 22 0,oP 23 (.build [.int .i64 0,.int .i64 0,.nils,.nils] [(0,1,.t 22)]),jZ 12 77,jW 4 12 23] (rS [oP 24 .mkmap,oP 25 (.load none (some 2) (.t 6)),oS (.mset 5 (.t 24) (.t 25) (cI 0)),jM 26
 24,jM 13 26] (rS [oP 27 (.load none (some 2) (.t 6)),oP 28 (.mk 150 1 [.int .i64 0,.int .i64 0] [(0,2,.t 27)]),jM 14 28] (.seq (rS [jI 15 0] (.block 0 (.loop (.seq (rS [jM 29 15,jM 30 14,jK 31 1 30,jB 32 .lss 29 31] (kE 32 0)) (.seq (.block 1 (rS [jM 35 14,jM 36 15,jX 37 2 35 36,oP 38
 (.load none (some 2) (.t 37)),oP 16 (.new 150 [.int .i64 0,.int .i64 0]),jW 2 16 38] (rS [oP 17 (.mov (.c .nils))] (.seq (rS [jI 18 0] (.block 2 (.loop (.seq (rS [jM 39 18,jM 40 0,jC 41 94 [.t 40],jB 42 .lss 39 41] (kE 42 2)) (.seq (.block 3 (rS [jM 45 4,oP 46 (.load none (some 2) (.t 16)),
 jM 47 18,oP 48 (.call (.t 45) [.t 46,.t 47]),oP 19 (.new 150 [.int .i64 0,.int .i64 0]),jW 2 19 48] (rS [jM 50 13,oP 51 (.load none (some 2) (.t 19)),oP 52 (.look 5 true (.int .i64 0) (.t 50) (.t 51)),jM 49 52,jE 53 0 49,jE 54 1 49,jM 20 53,jM 21 54] (.seq (rS [jM 55 21,jJ 56 55]
 (.cond (.t 56) (rS [jM 57 14,jK 58 1 57,jM 20 58] (rS [jM 59 13,oP 60 (.load none (some 2) (.t 19)),jM 61 20,oS (.mset 5 (.t 59) (.t 60) (.t 61))] (rS [jM 62 14,oP 63 (.load none (some 2) (.t 19)),oP 64 (.mk 150 1 [.int .i64 0,.int .i64 0] [(0,2,.t 63)]),oP 65 (.app 150 2 16 (.t 62) (.t
 64)),jM 14 65] (rS [jM 66 2,jD 67 .gtr 66 0,jM 68 67,oG 69 68 true (.mov (.t 14)),oG 70 68 true (.len 1 (.t 69)),oG 71 68 true (.mov (.t 2)),oG 72 68 true (.bin .gtr (.t 70) (.t 71)),oP 73 (.pick (.t 68) (.t 72) (.c (.bool false)))] (.cond (.t 73) (rS [jY 74,jW 4 10 74,jF 11 false] .ret)
 .skip))))) .skip)) (.region [jM 75 17,jM 76 20,oP 77 (.mk 3 1 [.int .i64 0] [(0,1,.t 76)]),oP 78 (.app 3 1 8 (.t 75) (.t 77)),jM 17 78]))))) (.region [jM 43 18,jD 44 .add 43 1,jM 18 44])))))) (rS [jA 79 2 12,oP 80 (.load (some 77) none (.t 79)),jM 81 3,oP 82 (.load none (some 2) (.t
 16)),⟨some 83,.call (.t 81) [.t 82],none,[77]⟩,oP 84 (.mk 4 1 [.bool false] [(0,1,.t 83)]),oP 85 (.app 4 1 1 (.t 80) (.t 84)),jA 86 2 12,jW 1 86 85] (.region [jA 87 3 12,jL 88 87,jM 89 17,oP 90 (.mk 80 1 [.nils] [(0,1,.t 89)]),oP 91 (.app 80 1 24 (.t 88) (.t 90)),jA 92 3 12,jW 1
 92 91])))))) (.region [jM 33 15,jD 34 .add 33 1,jM 15 34])))))) (rS [jQ 93 12,jW 4 10 93,jF 11 true] .ret)))))⟩
theorem irOk164 : irC Tryz.f164 = some ir164:=by kernel_rfl
def ir165 : BFun:=⟨[.tmp 3],rS [jT 2 150 0,jF 3 false] (rS [jA 4 1 2,jL 5 4,jD 6 .geq 5 0,jM 7 6,oG 8 7 true (.lea 2 (.t 1)),oG 9 7 true (.load none none (.t 8)),oG 10 7 true (.lea 0 (.t 2)),oG 11 7 true (.load none none (.t 10)),oG 12 7 true (.idx 1 (.t 9) (.t 11)),oG 13 7 true (.load
 none none (.t 12)),oP 14 (.pick (.t 7) (.t 13) (.c (.bool false))),jM 3 14] .ret)⟩
theorem irOk165 : irC Tryz.f165 = some ir165:=by kernel_rfl
def ir166 : BFun:=⟨[.cell 6 (some 2)],rS [jT 4 150 0,oP 6 (.new 150 [.int .i64 0,.int .i64 0])] (.seq (rS [jA 7 1 4,jL 8 7,jD 9 .lss 8 0,jM 10 9,oG 11 10 false (.lea 1 (.t 4)),oG 12 10 false (.load none none (.t 11)),oG 13 10 false (.load none none (.t 2)),oG 14 10 false (.mov (.t 1)),
 oG 15 10 false (.idx 1 (.t 13) (.t 14)),oG 16 10 false (.load none none (.t 15)),oG 17 10 false (.bin .andNot (.t 12) (.t 16)),oG 18 10 false (.bin .neq (.t 17) (cI 0)),jP 19 10 18 true] (.cond (.t 19) (rS [oP 20 (.build [.int .i64 0,.int .i64 0] [(1,1,cI (-1))]),jW 2 6 20] .ret) .skip))
 (rS [jA 21 3 3,jL 22 21,jA 23 0 4,jL 24 23,jX 25 1 22 24,jL 26 25,jM 27 1,jX 28 1 26 27,jL 29 28,jL 30 2,jM 31 1,jX 32 1 30 31,jL 33 32,oP 34 (.build [.int .i64 0,.int .i64 0] [(0,1,.t 29),(1,1,.t 33)]),jW 2 6 34] .ret))⟩
theorem irOk166 : irC Tryz.f166 = some ir166:=by kernel_rfl
def ir167 : BFun:=⟨[.cell 2 (some 4)],rS [jT 1 77 0,jZ 2 77] (rS [jA 21 2 1,jL 22 21,jK 23 1 22,oP 24 (.mksl 3 8 [.int .i64 0] (.t 23) (.t 23)),oP 3 (.new 80 [.nils]),jW 1 3 24] (.seq (rS [jA 25 2 1,jL 26 25,jK 27 1 26,jI 28 0] (.block 0 (.loop (rS [jB 29 .lss 28 27] (.seq (kE 29 0)
 (.seq (.block 1 (rS [jM 30 28,jX 31 1 26 28,jL 32 31,jM 4 30,jM 5 32] (rS [jM 33 5] (.cond (.t 33) (.region [jL 34 3,jM 35 4,jX 36 1 34 35,oS (.store none 1 (.t 36) (cI 1))]) .skip)))) (.region [jD 37 .add 28 1,jM 28 37]))))))) (.seq (rS [jI 6 0] (.block 2 (.loop (.block 3 (rS [oP 38
 .mkmap,jM 7 38] (rS [jL 39 3,jK 40 1 39,oP 41 (.mksl 3 8 [.int .i64 0] (.t 40) (.t 40)),jM 8 41] (.seq (rS [jA 42 3 1,jL 43 42,jK 44 1 43,jI 45 0] (.block 4 (.loop (rS [jB 46 .lss 45 44] (.seq (kE 46 4) (.seq (.block 5 (rS [jM 47 45,jX 48 1 43 45,jL 49 48,jM 9 47,jM 10 49] (rS [jL 50 3,
 jM 51 9,jX 52 1 50 51,jL 53 52,jC 54 210 [.t 53],jM 11 54] (.seq (rS [jM 55 10,jK 56 1 55,jI 57 0] (.block 6 (.loop (rS [jB 58 .lss 57 56] (.seq (kE 58 6) (.seq (.block 7 (rS [jX 59 1 55 57,jL 60 59,jM 13 60] (.region [jM 61 11,jL 62 3,jM 63 13,jX 64 1 62 63,jL 65 64,jC 66 210 [.t
 65],oP 67 (.bin .add (.c (.str ⟨#[44]⟩)) (.t 66)),jB 68 .add 61 67,jM 11 68]))) (.region [jD 69 .add 57 1,jM 57 69]))))))) (rS [jM 71 7,jM 72 11,oP 73 (.look 1 true (.int .i64 0) (.t 71) (.t 72)),jM 70 73,jE 74 0 70,jE 75 1 70,jM 14 74,jM 15 75] (.seq (rS [jM 76 15,jJ 77 76] (.cond (.t
 77) (rS [jM 78 7,jK 79 2 78,jM 14 79] (.region [jM 80 7,jM 81 11,jM 82 14,oS (.mset 1 (.t 80) (.t 81) (.t 82))])) .skip)) (.region [jM 83 8,jM 84 9,jM 85 14,jX 86 1 83 84,jW 1 86 85]))))))) (.region [jD 87 .add 45 1,jM 45 87]))))))) (rS [jM 88 8,jW 1 3 88] (.seq (rS [jM 89 7,jK 90 2
 89,jM 91 6,jB 92 .eql 90 91] (.cond (.t 92) (.exit 2) .skip)) (.region [jM 93 7,jK 94 2 93,jM 6 94])))))))))) (rS [jL 95 3,jK 96 1 95,oP 97 (.mksl 3 8 [.int .i64 0] (.t 96) (.t 96)),oP 16 (.new 80 [.nils]),jW 1 16 97] (.seq (rS [jL 98 3,jK 99 1 98,jI 100 0] (.block 8 (.loop (rS [jB 101
 .lss 100 99] (.seq (kE 101 8) (.seq (.block 9 (rS [jM 102 100,jX 103 1 98 100,jL 104 103,jM 17 102,jM 18 104] (.region [jL 105 16,jM 106 18,jM 107 17,jX 108 1 105 106,jW 1 108 107]))) (.region [jD 109 .add 100 1,jM 100 109]))))))) (rS [jA 111 0 1,jL 112 111,jL 113 3,jA 114 1 1,jL 115
 114,jX 116 1 113 115,jL 117 116,oP 118 (.mkfn 211 [.t 1,.t 16]),oP 119 (.mkfn 212 [.t 3,.t 1,.t 16]),jC 120 66 [.t 112,.t 117,cI 0,.t 118,.t 119],jM 110 120,jE 121 0 110,jE 122 1 110,jZ 19 77,jW 4 19 121,jM 20 122] (rS [jQ 123 19,jW 4 2 123] .ret)))))))⟩
theorem irOk167 : irC Tryz.f167 = some ir167:=by kernel_rfl
def ir168 : BFun:=⟨[.tmp 2],rS [oP 2 (.mov (.c .nils))] (rS [oP 3 (.mov (.c .nils))] (.seq (rS [jM 6 0,jK 7 1 6,jI 8 0] (.block 0 (.loop (rS [jB 9 .lss 8 7] (.seq (kE 9 0) (.seq (.block 1 (rS [jX 10 1 6 8,jL 11 10,jM 5 11] (.region [jM 12 3,jM 13 5,oP 14 (.mk 2 1 [.int .i64 0] [(0,1,.t
 13)]),oP 15 (.app 2 1 8 (.t 12) (.t 14)),jM 3 15]))) (.region [jD 16 .add 8 1,jM 8 16]))))))) (rS [jM 17 3,jM 2 17] .ret)))⟩
theorem irOk168 : irC Tryz.f168 = some ir168:=by kernel_rfl
def ir169 : BFun:=⟨[.tmp 4],rS [jT 2 25 0,jF 4 false] (rS [jM 5 1,jA 6 0 2,jL 7 6,jD 8 .sub 7 1,jC 9 45 [.t 5,cI 0,.t 8],jM 4 9] .ret)⟩
theorem irOk169 : irC Tryz.f169 = some ir169:=by kernel_rfl
def ir170 : BFun:=⟨[.tmp 6],rS [jI 6 0] (rS [jM 7 0,jC 8 214 [.t 7],jM 9 1,jM 10 2,oP 11 (.mk 3 1 [.int .i64 0] [(0,1,.t 10)]),jC 12 213 [.t 8,.t 9,.t 11],jC 13 107 [.t 12],jM 6 13] .ret)⟩
theorem irOk170 : irC Tryz.f170 = some ir170:=by kernel_rfl
def ir171 : BFun:=⟨[.tmp 2],rS [oP 2 (.mov (.c .nils))] (rS [oP 3 (.mov (.c .nils))] (.seq (.block 0 (.loop (.seq (rS [jM 4 0,jD 5 .gtr 4 0] (kE 5 0)) (.seq (.block 1 (.region [jM 8 3,oP 9 (.mk 3 1 [.int .i64 0] [(0,1,cI 2)]),oP 10 (.app 3 1 8 (.t 8) (.t 9)),jM 3 10])) (.region [jM 6 0,jD
 7 .sub 6 1,jM 0 7]))))) (rS [jM 11 3,jM 2 11] .ret)))⟩
theorem irOk171 : irC Tryz.f171 = some ir171:=by kernel_rfl
def ir172 : BFun:=⟨[.cell 10 (some 4),.tmp 11],rS [jZ 10 77,jF 11 false] (rS [jM 22 0,oP 23 (.build [.int .i64 0,.int .i64 0,.nils,.nils] [(0,1,.t 22)]),jZ 12 77,jW 4 12 23] (rS [oP 24 .mkmap,jM 25 1,oS (.mset 1 (.t 24) (.t 25) (cI 0)),jM 26 24,jM 13 26] (rS [jM 27 1,oP 28 (.mk 9
 1 [.str ⟨#[]⟩] [(0,1,.t 27)]),jM 14 28] (.seq (rS [jI 15 0] (.block 0 (.loop (.seq (rS [jM 29 15,jM 30 14,jK 31 1 30,jB 32 .lss 29 31] (kE 32 0)) (.seq (.block 1 (rS [jM 35 14,jM 36 15,jX 37 1 35 36,jL 38 37,jM 16 38] (rS [oP 17 (.mov (.c .nils))] (.seq (rS [jI 18 0] (.block 2 (.loop
 (.seq (rS [jM 39 18,jM 40 0,jC 41 94 [.t 40],jB 42 .lss 39 41] (kE 42 2)) (.seq (.block 3 (rS [jM 45 4,jM 46 16,jM 47 18,oP 48 (.call (.t 45) [.t 46,.t 47]),jM 19 48] (rS [jM 50 13,jM 51 19,oP 52 (.look 1 true (.int .i64 0) (.t 50) (.t 51)),jM 49 52,jE 53 0 49,jE 54 1 49,jM 20 53,jM
 21 54] (.seq (rS [jM 55 21,jJ 56 55] (.cond (.t 56) (rS [jM 57 14,jK 58 1 57,jM 20 58] (rS [jM 59 13,jM 60 19,jM 61 20,oS (.mset 1 (.t 59) (.t 60) (.t 61))] (rS [jM 62 14,jM 63 19,oP 64 (.mk 9 1 [.str ⟨#[]⟩] [(0,1,.t 63)]),oP 65 (.app 9 1 16 (.t 62) (.t 64)),jM 14 65] (rS [jM 66 2,jD
 67 .gtr 66 0,jM 68 67,oG 69 68 true (.mov (.t 14)),oG 70 68 true (.len 1 (.t 69)),oG 71 68 true (.mov (.t 2)),oG 72 68 true (.bin .gtr (.t 70) (.t 71)),oP 73 (.pick (.t 68) (.t 72) (.c (.bool false)))] (.cond (.t 73) (rS [jY 74,jW 4 10 74,jF 11 false] .ret) .skip))))) .skip)) (.region [jM
 75 17,jM 76 20,oP 77 (.mk 3 1 [.int .i64 0] [(0,1,.t 76)]),oP 78 (.app 3 1 8 (.t 75) (.t 77)),jM 17 78]))))) (.region [jM 43 18,jD 44 .add 43 1,jM 18 44])))))) (rS [jA 79 2 12,oP 80 (.load (some 77) none (.t 79)),jM 81 3,jM 82 16,⟨some 83,.call (.t 81) [.t 82],none,[77]⟩,oP 84 (.mk
 4 1 [.bool false] [(0,1,.t 83)]),oP 85 (.app 4 1 1 (.t 80) (.t 84)),jA 86 2 12,jW 1 86 85] (.region [jA 87 3 12,jL 88 87,jM 89 17,oP 90 (.mk 80 1 [.nils] [(0,1,.t 89)]),oP 91 (.app 80 1 24 (.t 88) (.t 90)),jA 92 3 12,jW 1 92 91])))))) (.region [jM 33 15,jD 34 .add 33 1,jM 15
 34])))))) (rS [jQ 93 12,jW 4 10 93,jF 11 true] .ret)))))⟩
theorem irOk172 : irC Tryz.f172 = some ir172:=by kernel_rfl
def ir173 : BFun:=⟨[.tmp 2],rS [oP 2 (.mov (.c (.str ⟨#[]⟩)))] (rS [jM 6 0,jK 7 1 6,oP 8 (.mksl 5 1 [.int .u8 0] (.t 7) (.t 7)),jM 3 8] (.seq (rS [jM 9 0,jK 10 1 9,jI 11 0] (.block 0 (.loop (rS [jB 12 .lss 11 10] (.seq (kE 12 0) (.seq (.block 1 (rS [jM 13 11,jX 14 1 9 11,jL 15 14,jM 4
 13,jM 5 15] (rS [jM 16 5] (.cond (.t 16) (.region [jM 17 3,jM 18 4,jX 19 1 17 18,oS (.store none 1 (.t 19) (.c (.int .u8 1)))]) .skip)))) (.region [jD 20 .add 11 1,jM 11 20]))))))) (rS [jM 21 3,oP 22 (.b2s 5 (.t 21)),jM 2 22] .ret)))⟩
theorem irOk173 : irC Tryz.f173 = some ir173:=by kernel_rfl
def ir174 : BFun:=⟨[.tmp 3],rS [jF 3 false] (.seq (rS [jL 6 1,jK 7 1 6,jI 8 0] (.block 0 (.loop (rS [jB 9 .lss 8 7] (.seq (kE 9 0) (.seq (.block 1 (rS [jM 10 8,jX 11 1 6 8,jL 12 11,jM 4 10,jM 5 12] (rS [jM 13 5,jM 14 13,oG 15 14 true (.mov (.t 0)),oG 16 14 true (.mov (.t 4)),oG 17 14
 true (.idxs (.t 15) (.t 16)),oG 18 14 true (.bin .eql (.t 17) (.c (.int .u8 1))),oP 19 (.pick (.t 14) (.t 18) (.c (.bool false)))] (.cond (.t 19) (rS [jF 3 true] .ret) .skip)))) (.region [jD 20 .add 8 1,jM 8 20]))))))) (rS [jF 3 false] .ret))⟩
theorem irOk174 : irC Tryz.f174 = some ir174:=by kernel_rfl
def ir175 : BFun:=⟨[.tmp 6],rS [oP 6 (.mov (.c (.str ⟨#[]⟩)))] (rS [jA 12 0 2,jL 13 12,jD 14 .sub 13 1,jM 15 1,jC 16 95 [.t 14,.t 15],jM 7 16] (rS [jA 17 2 2,jL 18 17,jK 19 1 18,oP 20 (.mksl 4 1 [.bool false] (.t 19) (.t 19)),jM 8 20] (.seq (rS [jI 9 0] (.block 0 (.loop (.seq (rS [jM
 21 9,jD 22 .leq 21 2] (kE 22 0)) (.seq (.block 1 (rS [jM 25 7,jL 26 3,jM 27 9,jC 28 170 [.t 25,.t 26,.t 27],jM 10 28] (rS [jM 29 8,jK 30 1 29,jI 31 0] (.block 2 (.loop (rS [jB 32 .lss 31 30] (.seq (kE 32 2) (.seq (.block 3 (rS [jM 33 31,jM 11 33] (rS [jM 34 0,jM 35 11,oP 36 (.idxs (.t
 34) (.t 35)),oP 37 (.bin .eql (.t 36) (.c (.int .u8 1)))] (.cond (.t 37) (.region [jM 38 8,jA 39 3 2,jL 40 39,jM 41 11,jX 42 1 40 41,jL 43 42,jM 44 10,jX 45 1 43 44,jL 46 45,jX 47 1 38 46,oS (.store none 1 (.t 47) (.c (.bool true)))]) .skip)))) (.region [jD 48 .add 31 1,jM 31
 48]))))))))) (.region [jM 23 9,jD 24 .add 23 1,jM 9 24])))))) (rS [jM 49 8,jC 50 173 [.t 49],jM 6 50] .ret))))⟩
theorem irOk175 : irC Tryz.f175 = some ir175:=by kernel_rfl
def ir183 : BFun:=⟨[.cell 6 (some 4)],rS [jT 3 77 0,jZ 6 77] (rS [jM 15 1,jC 16 94 [.t 15],oP 17 (.mksl 3 8 [.int .i64 0] (.t 16) (.t 16)),jM 7 17] (.seq (rS [jM 18 7,jK 19 1 18,jI 20 0] (.block 0 (.loop (rS [jB 21 .lss 20 19] (.seq (kE 21 0) (.seq (.block 1 (rS [jM 22 20,jM 8 22]
 (.region [jM 23 7,jM 24 8,jM 25 2,jM 26 1,jM 27 8,jC 28 95 [.t 26,.t 27],oP 29 (.call (.t 25) [.t 28]),jC 30 107 [.t 29],jX 31 1 23 24,jW 1 31 30]))) (.region [jD 32 .add 20 1,jM 20 32]))))))) (rS [jM 33 1,jA 34 1 3,oP 35 (.load (some 77) none (.t 34)),jA 36 2 3,jL 37 36,⟨some 38,
 .call (.c (.fn 106 [])) [.t 37],none,[77]⟩,oP 39 (.build [.int .i64 0,.int .i64 0,.nils,.nils] [(0,1,.t 33),(1,1,.t 35),(2,1,.t 38)]),jZ 9 77,jW 4 9 39] (.seq (rS [jA 40 2 3,jL 41 40,jK 42 1 41,jI 43 0] (.block 2 (.loop (rS [jB 44 .lss 43 42] (.seq (kE 44 2) (.seq (.block 3 (rS
 [jM 45 43,jM 10 45] (rS [oP 11 (.mov (.c .nils))] (.seq (rS [jM 46 7,jK 47 1 46,jI 48 0] (.block 4 (.loop (rS [jB 49 .lss 48 47] (.seq (kE 49 4) (.seq (.block 5 (rS [jX 50 1 46 48,jL 51 50,jM 13 51] (rS [jM 52 10,jM 14 52] (.seq (rS [jM 53 13,jA 54 0 3,jL 55 54,jC 56 94 [.t 55],jB 57
 .lss 53 56] (.cond (.t 57) (.region [jA 58 3 3,jL 59 58,jM 60 10,jX 61 1 59 60,jL 62 61,jM 63 13,jX 64 1 62 63,jL 65 64,jM 14 65]) .skip)) (.region [jM 66 11,jM 67 14,oP 68 (.mk 3 1 [.int .i64 0] [(0,1,.t 67)]),oP 69 (.app 3 1 8 (.t 66) (.t 68)),jM 11 69]))))) (.region [jD 70 .add 48
 1,jM 48 70]))))))) (.region [jA 71 3 9,jL 72 71,jM 73 11,oP 74 (.mk 80 1 [.nils] [(0,1,.t 73)]),oP 75 (.app 80 1 24 (.t 72) (.t 74)),jA 76 3 9,jW 1 76 75]))))) (.region [jD 77 .add 43 1,jM 43 77]))))))) (rS [jQ 78 9,jW 4 6 78] .ret)))))⟩
theorem irOk183 : irC Tryz.f183 = some ir183:=by kernel_rfl
def ir184 : BFun:=⟨[.tmp 3],rS [oP 3 (.mov (.c .nils))] (rS [jM 4 0,jL 5 1,jL 6 1,jD 7 .add 6 1,jC 8 185 [.t 4,.t 5,.t 7],jM 3 8] .ret)⟩
theorem irOk184 : irC Tryz.f184 = some ir184:=by kernel_rfl
def ir188 : BFun:=⟨[.cell 6 (some 4),.tmp 7],rS [jT 3 25 0,jT 4 25 1,jZ 6 25,jI 7 0] (.seq (rS [jQ 11 3,jQ 12 4,jC 13 218 [.t 11,.t 12],jM 8 13] (rS [jM 14 8,jD 15 .neq 14 0] (.cond (.t 15) (rS [jY 16,jM 17 8,jW 4 6 16,jM 7 17] .ret) .skip))) (rS [jQ 18 3,oP 20 (.load (some 25)
 (some 4) (.t 4)),⟨some 19,.call (.c (.fn 113 [])) [.t 18],none,[25]⟩,jC 21 113 [.t 20],jZ 9 77,jZ 10 77,jW 4 9 19,jW 4 10 21] (.seq (rS [jA 22 2 9,jL 23 22,jK 24 1 23,jA 25 2 10,jL 26 25,jK 27 1 26,jB 28 .mul 24 27,jD 29 .gtr 28 1000] (.cond (.t 29) (rS [jY 30,jW 4 6 30,jI 7 3]
 .ret) .skip)) (rS [jQ 31 9,jQ 32 10,jM 33 2,jC 34 219 [.t 31,.t 32,.t 33],jC 35 69 [.t 34],jE 36 0 35,jE 37 1 35,jW 4 6 36,jM 7 37] .ret))))⟩
theorem irOk188 : irC Tryz.f188 = some ir188:=by kernel_rfl
def ir190 : BFun:=⟨[.tmp 4],rS [jF 4 false] (rS [jM 5 0,jM 6 5,oG 7 6 true (.mov (.t 1)),oP 8 (.pick (.t 6) (.t 7) (.c (.bool false))),jM 4 8] .ret)⟩
theorem irOk190 : irC Tryz.f190 = some ir190:=by kernel_rfl
def ir201 : BFun:=⟨[.cell 4 (some 4),.tmp 5],rS [jT 2 25 0,jT 3 25 1,jZ 4 25,jI 5 0] (.seq (.block 0 (rS [jQ 15 2,jC 16 58 [.t 15],jJ 17 16,jM 18 17,oG 19 18 false (.load none (some 4) (.t 3)),oG 20 18 false (.call (.c (.fn 58 [])) [.t 19]),oG 21 18 false (.not (.t 20)),jP 22 18 21
 true,jM 14 22] (.cond (.t 14) (rS [jY 23,jW 4 4 23,jI 5 1] .ret) (rS [jA 25 0 2,jL 26 25,jA 27 0 3,jL 28 27,jB 29 .add 26 28,jD 30 .gtr 29 3,jM 24 30] (.cond (.t 24) (rS [jY 31,jW 4 4 31,jI 5 2] .ret) .skip))))) (rS [oP 6 (.mov (.c .nils)),oP 7 (.mov (.c .nils))] (.seq (rS [jI 8 0]
 (.block 1 (.loop (.seq (rS [jM 32 8,jA 33 0 3,jL 34 33,jB 35 .lss 32 34] (kE 35 1)) (.seq (.block 2 (.region [jM 38 6,jA 39 0 2,jL 40 39,jM 41 8,jB 42 .add 40 41,oP 43 (.mk 2 1 [.int .i64 0] [(0,1,.t 42)]),oP 44 (.app 2 1 8 (.t 38) (.t 43)),jM 6 44])) (.region [jM 36 8,jD 37 .add 36
 1,jM 8 37])))))) (.seq (rS [jI 9 0] (.block 3 (.loop (.seq (rS [jM 45 9,jA 46 0 2,jL 47 46,jB 48 .lss 45 47] (kE 48 3)) (.seq (.block 4 (.region [jM 51 7,oP 52 (.mk 2 1 [.int .i64 0] [(0,1,cI 0)]),oP 53 (.app 2 1 8 (.t 51) (.t 52)),jM 7 53])) (.region [jM 49 9,jD 50 .add 49 1,jM 9
 50])))))) (rS [jQ 55 2,jM 56 6,jC 57 234 [.t 55,.t 56],jM 54 57,jE 58 0 54,jE 59 1 54,jZ 10 25,jW 4 10 58,jM 11 59] (rS [jQ 61 3,jM 62 7,jC 63 234 [.t 61,.t 62],jM 60 63,jE 64 0 60,jE 65 1 60,jZ 12 25,jW 4 12 64,jM 13 65] (rS [jQ 66 10,jM 67 11,jQ 68 12,jM 69 13,jC 70 88 [.t
 66,.t 67,.t 68,.t 69],jE 71 0 70,jE 72 1 70,jW 4 4 71,jM 5 72] .ret)))))))⟩
theorem irOk201 : irC Tryz.f201 = some ir201:=by kernel_rfl
def ir206 : BFun:=⟨[.tmp 4],rS [jF 4 false] (rS [jM 5 0,jM 6 1,jN 7 5,oP 8 (.idxa 256 1 (.t 7) (.t 6)),jL 9 8,jM 4 9] .ret)⟩
theorem irOk206 : irC Tryz.f206 = some ir206:=by kernel_rfl
def ir211 : BFun:=⟨[.tmp 4],rS [jF 4 false] (rS [jA 5 2 1,jL 6 5,jL 7 2,jM 8 0,jX 9 1 7 8,jL 10 9,jX 11 1 6 10,jL 12 11,jM 4 12] .ret)⟩
theorem irOk211 : irC Tryz.f211 = some ir211:=by kernel_rfl
def ir212 : BFun:=⟨[.tmp 7],rS [jI 7 0] (rS [jL 8 2,jA 9 3 3,jL 10 9,jL 11 4,jM 12 0,jX 13 1 11 12,jL 14 13,jX 15 1 10 14,jL 16 15,jM 17 1,jX 18 1 16 17,jL 19 18,jX 20 1 8 19,jL 21 20,jM 7 21] .ret)⟩
theorem irOk212 : irC Tryz.f212 = some ir212:=by kernel_rfl
def ir214 : BFun:=⟨[.tmp 2],rS [oP 2 (.mov (.c .nils))] (.seq (rS [jM 3 0,oP 4 (.isnil false (.t 3))] (.cond (.t 4) (rS [oP 2 (.mov (.c .nils))] .ret) .skip)) (rS [oP 5 (.mk 3 0 [] []),jM 6 0,oP 7 (.app 3 1 8 (.t 5) (.t 6)),jM 2 7] .ret))⟩
theorem irOk214 : irC Tryz.f214 = some ir214:=by kernel_rfl
def ir218 : BFun:=⟨[.tmp 4],rS [jT 2 25 0,jT 3 25 1,jI 4 0] (.seq (.block 0 (rS [jQ 6 2,jC 7 58 [.t 6],jJ 8 7,jM 9 8,oG 10 9 false (.load none (some 4) (.t 3)),oG 11 9 false (.call (.c (.fn 58 [])) [.t 10]),oG 12 9 false (.not (.t 11)),jP 13 9 12 true,jM 5 13] (.cond (.t 5) (rS [jI 4
 1] .ret) (rS [jA 15 0 2,jL 16 15,jA 17 0 3,jL 18 17,jB 19 .neq 16 18,jM 14 19] (.cond (.t 14) (rS [jI 4 2] .ret) .skip))))) (rS [jI 4 0] .ret))⟩
theorem irOk218 : irC Tryz.f218 = some ir218:=by kernel_rfl
def ir219 : BFun:=⟨[.cell 6 (some 4)],rS [jT 3 77 0,jT 4 77 1,jT 5 165 2,jZ 6 77] (rS [jA 10 0 3,jL 11 10,jA 12 1 3,jL 13 12,jA 14 1 4,jL 15 14,oP 16 (.build [.int .i64 0,.int .i64 0] [(0,1,.t 13),(1,1,.t 15)]),oP 17 (.mkfn 244 [.t 5,.t 3,.t 4]),oP 18 (.mkfn 245 [.t 3,.t 4]),
 jC 19 243 [.t 11,.t 16,cI 0,.t 17,.t 18],jM 9 19,jE 20 0 9,jE 21 1 9,jZ 7 77,jW 4 7 20,jM 8 21] (rS [jQ 22 7,jW 4 6 22] .ret))⟩
theorem irOk219 : irC Tryz.f219 = some ir219:=by kernel_rfl
def ir234 : BFun:=⟨[.cell 4 (some 4),.tmp 5],rS [jT 2 25 0,jZ 4 25,jI 5 0] (.seq (rS [jM 10 1,jK 11 1 10,jI 12 0] (.block 0 (.loop (rS [jB 13 .lss 12 11] (.seq (kE 13 0) (.seq (.block 1 (rS [jX 14 1 10 12,jL 15 14,jM 7 15] (rS [jQ 17 2,jM 18 7,jC 19 126 [.t 17,.t 18],jM 16 19,jE 20 0
 16,jE 21 1 16,jZ 8 25,jW 4 8 20,jM 9 21] (.seq (rS [jM 22 9,jD 23 .neq 22 0] (.cond (.t 23) (rS [jY 24,jM 25 9,jW 4 4 24,jM 5 25] .ret) .skip)) (.region [jQ 26 8,jW 4 2 26]))))) (.region [jD 27 .add 12 1,jM 12 27]))))))) (rS [jQ 28 2,jW 4 4 28,jI 5 0] .ret))⟩
theorem irOk234 : irC Tryz.f234 = some ir234:=by kernel_rfl
def ir243 : BFun:=⟨[.cell 10 (some 4),.tmp 11],rS [jT 6 212 1,jZ 10 77,jF 11 false] (rS [jM 22 0,oP 23 (.build [.int .i64 0,.int .i64 0,.nils,.nils] [(0,1,.t 22)]),jZ 12 77,jW 4 12 23] (rS [oP 24 .mkmap,oP 25 (.load none (some 2) (.t 6)),oS (.mset 5 (.t 24) (.t 25) (cI 0)),jM 26
 24,jM 13 26] (rS [oP 27 (.load none (some 2) (.t 6)),oP 28 (.mk 212 1 [.int .i64 0,.int .i64 0] [(0,2,.t 27)]),jM 14 28] (.seq (rS [jI 15 0] (.block 0 (.loop (.seq (rS [jM 29 15,jM 30 14,jK 31 1 30,jB 32 .lss 29 31] (kE 32 0)) (.seq (.block 1 (rS [jM 35 14,jM 36 15,jX 37 2 35 36,oP 38
 (.load none (some 2) (.t 37)),oP 16 (.new 212 [.int .i64 0,.int .i64 0]),jW 2 16 38] (rS [oP 17 (.mov (.c .nils))] (.seq (rS [jI 18 0] (.block 2 (.loop (.seq (rS [jM 39 18,jM 40 0,jC 41 94 [.t 40],jB 42 .lss 39 41] (kE 42 2)) (.seq (.block 3 (rS [jM 45 4,oP 46 (.load none (some 2) (.t 16)),
 jM 47 18,oP 48 (.call (.t 45) [.t 46,.t 47]),oP 19 (.new 212 [.int .i64 0,.int .i64 0]),jW 2 19 48] (rS [jM 50 13,oP 51 (.load none (some 2) (.t 19)),oP 52 (.look 5 true (.int .i64 0) (.t 50) (.t 51)),jM 49 52,jE 53 0 49,jE 54 1 49,jM 20 53,jM 21 54] (.seq (rS [jM 55 21,jJ 56 55]
 (.cond (.t 56) (rS [jM 57 14,jK 58 1 57,jM 20 58] (rS [jM 59 13,oP 60 (.load none (some 2) (.t 19)),jM 61 20,oS (.mset 5 (.t 59) (.t 60) (.t 61))] (rS [jM 62 14,oP 63 (.load none (some 2) (.t 19)),oP 64 (.mk 212 1 [.int .i64 0,.int .i64 0] [(0,2,.t 63)]),oP 65 (.app 212 2 16 (.t 62) (.t
 64)),jM 14 65] (rS [jM 66 2,jD 67 .gtr 66 0,jM 68 67,oG 69 68 true (.mov (.t 14)),oG 70 68 true (.len 1 (.t 69)),oG 71 68 true (.mov (.t 2)),oG 72 68 true (.bin .gtr (.t 70) (.t 71)),oP 73 (.pick (.t 68) (.t 72) (.c (.bool false)))] (.cond (.t 73) (rS [jY 74,jW 4 10 74,jF 11 false] .ret)
 .skip))))) .skip)) (.region [jM 75 17,jM 76 20,oP 77 (.mk 3 1 [.int .i64 0] [(0,1,.t 76)]),oP 78 (.app 3 1 8 (.t 75) (.t 77)),jM 17 78]))))) (.region [jM 43 18,jD 44 .add 43 1,jM 18 44])))))) (rS [jA 79 2 12,oP 80 (.load (some 77) none (.t 79)),jM 81 3,oP 82 (.load none (some 2) (.t
 16)),⟨some 83,.call (.t 81) [.t 82],none,[77]⟩,oP 84 (.mk 4 1 [.bool false] [(0,1,.t 83)]),oP 85 (.app 4 1 1 (.t 80) (.t 84)),jA 86 2 12,jW 1 86 85] (.region [jA 87 3 12,jL 88 87,jM 89 17,oP 90 (.mk 80 1 [.nils] [(0,1,.t 89)]),oP 91 (.app 80 1 24 (.t 88) (.t 90)),jA 92 3 12,jW 1
 92 91])))))) (.region [jM 33 15,jD 34 .add 33 1,jM 15 34])))))) (rS [jQ 93 12,jW 4 10 93,jF 11 true] .ret)))))⟩
theorem irOk243 : irC Tryz.f243 = some ir243:=by kernel_rfl
def ir244 : BFun:=⟨[.tmp 5],rS [jT 4 212 0,jF 5 false] (rS [jL 6 1,jA 7 2 2,jL 8 7,oP 9 (.idxa 2 1 (.t 4) (cI 0)),jL 10 9,jX 11 1 8 10,jL 12 11,jA 13 2 3,jL 14 13,oP 15 (.idxa 2 1 (.t 4) (cI 1)),jL 16 15,jX 17 1 14 16,jL 18 17,oP 19 (.call (.t 6) [.t 12,.t 18]),jM 5 19] .ret)⟩
theorem irOk244 : irC Tryz.f244 = some ir244:=by kernel_rfl
def ir245 : BFun:=⟨[.cell 6 (some 2)],rS [jT 4 212 0,oP 6 (.new 212 [.int .i64 0,.int .i64 0])] (rS [jA 7 3 2,jL 8 7,oP 9 (.idxa 2 1 (.t 4) (cI 0)),jL 10 9,jX 11 1 8 10,jL 12 11,jM 13 1,jX 14 1 12 13,jL 15 14,jA 16 3 3,jL 17 16,oP 18 (.idxa 2 1 (.t 4) (cI 1)),jL 19 18,jX 20 1 17
 19,jL 21 20,jM 22 1,jX 23 1 21 22,jL 24 23,oP 25 (.build [.int .i64 0,.int .i64 0] [(0,1,.t 15),(1,1,.t 24)]),jW 2 6 25] .ret)⟩
theorem irOk245 : irC Tryz.f245 = some ir245:=by kernel_rfl
def fnA : Nat→Option BFun
  | 5 => some ir5
  | 15 => some ir15
  | 16 => some ir16
  | 20 => some ir20
  | 21 => some ir21
  | 22 => some ir22
  | 23 => some ir23
  | 24 => some ir24
  | 25 => some ir25
  | 26 => some ir26
  | 41 => some ir41
  | 45 => some ir45
  | 46 => some ir46
  | 47 => some ir47
  | 56 => some ir56
  | 57 => some ir57
  | 58 => some ir58
  | 59 => some ir59
  | 60 => some ir60
  | 61 => some ir61
  | 62 => some ir62
  | _ => none
def fnB : Nat→Option BFun
  | 63 => some ir63
  | 64 => some ir64
  | 65 => some ir65
  | 66 => some ir66
  | 67 => some ir67
  | 68 => some ir68
  | 69 => some ir69
  | 70 => some ir70
  | 88 => some ir88
  | 94 => some ir94
  | 95 => some ir95
  | 96 => some ir96
  | 97 => some ir97
  | 98 => some ir98
  | 99 => some ir99
  | 106 => some ir106
  | 107 => some ir107
  | 108 => some ir108
  | 109 => some ir109
  | 110 => some ir110
  | 111 => some ir111
  | 112 => some ir112
  | 113 => some ir113
  | 114 => some ir114
  | _ => none
def fnC : Nat→Option BFun
  | 126 => some ir126
  | 137 => some ir137
  | 148 => some ir148
  | 149 => some ir149
  | 159 => some ir159
  | 160 => some ir160
  | 161 => some ir161
  | 164 => some ir164
  | 165 => some ir165
  | 166 => some ir166
  | 167 => some ir167
  | 168 => some ir168
  | 169 => some ir169
  | 170 => some ir170
  | 171 => some ir171
  | 172 => some ir172
  | 173 => some ir173
  | 174 => some ir174
  | 175 => some ir175
  | 183 => some ir183
  | 184 => some ir184
  | _ => none
def fnD : Nat→Option BFun
  | 188 => some ir188
  | 190 => some ir190
  | 201 => some ir201
  | 206 => some ir206
  | 211 => some ir211
  | 212 => some ir212
  | 214 => some ir214
  | 218 => some ir218
  | 219 => some ir219
  | 234 => some ir234
  | 243 => some ir243
  | 244 => some ir244
  | 245 => some ir245
  | _ => none
def fnOf (f : Nat) : Option BFun:=match fnA f with | some x => some x | none => match fnB f with | some x => some x | none => match fnC f with | some x => some x | none => fnD f
def gam (base : Nat) : Ctx:=⟨base,fnOf,orC (itoaB 210) (orC (delB base 185 3) (insB base 213 3))⟩
theorem linkedA : Linked Tryz.prog sq ⟨0,fnA,fun _ _ _ _ _ => False⟩:=by
  intro f bfn h
  simp only [fnA] at h
  split at h
  · cases h; exact ⟨Tryz.f5,Tryz.func5,irOk5,by kernel_rfl⟩
  · cases h; exact ⟨Tryz.f15,Tryz.func15,irOk15,by kernel_rfl⟩
  · cases h; exact ⟨Tryz.f16,Tryz.func16,irOk16,by kernel_rfl⟩
  · cases h; exact ⟨Tryz.f20,Tryz.func20,irOk20,by kernel_rfl⟩
  · cases h; exact ⟨Tryz.f21,Tryz.func21,irOk21,by kernel_rfl⟩
  · cases h; exact ⟨Tryz.f22,Tryz.func22,irOk22,by kernel_rfl⟩
  · cases h; exact ⟨Tryz.f23,Tryz.func23,irOk23,by kernel_rfl⟩
  · cases h; exact ⟨Tryz.f24,Tryz.func24,irOk24,by kernel_rfl⟩
  · cases h; exact ⟨Tryz.f25,Tryz.func25,irOk25,by kernel_rfl⟩
  · cases h; exact ⟨Tryz.f26,Tryz.func26,irOk26,by kernel_rfl⟩
  · cases h; exact ⟨Tryz.f41,Tryz.func41,irOk41,by kernel_rfl⟩
  · cases h; exact ⟨Tryz.f45,Tryz.func45,irOk45,by kernel_rfl⟩
  · cases h; exact ⟨Tryz.f46,Tryz.func46,irOk46,by kernel_rfl⟩
  · cases h; exact ⟨Tryz.f47,Tryz.func47,irOk47,by kernel_rfl⟩
  · cases h; exact ⟨Tryz.f56,Tryz.func56,irOk56,by kernel_rfl⟩
  · cases h; exact ⟨Tryz.f57,Tryz.func57,irOk57,by kernel_rfl⟩
  · cases h; exact ⟨Tryz.f58,Tryz.func58,irOk58,by kernel_rfl⟩
  · cases h; exact ⟨Tryz.f59,Tryz.func59,irOk59,by kernel_rfl⟩
  · cases h; exact ⟨Tryz.f60,Tryz.func60,irOk60,by kernel_rfl⟩
  · cases h; exact ⟨Tryz.f61,Tryz.func61,irOk61,by kernel_rfl⟩
  · cases h; exact ⟨Tryz.f62,Tryz.func62,irOk62,by kernel_rfl⟩
  · cases h
theorem linkedB : Linked Tryz.prog sq ⟨0,fnB,fun _ _ _ _ _ => False⟩:=by
  intro f bfn h
  simp only [fnB] at h
  split at h
  · cases h; exact ⟨Tryz.f63,Tryz.func63,irOk63,by kernel_rfl⟩
  · cases h; exact ⟨Tryz.f64,Tryz.func64,irOk64,by kernel_rfl⟩
  · cases h; exact ⟨Tryz.f65,Tryz.func65,irOk65,by kernel_rfl⟩
  · cases h; exact ⟨Tryz.f66,Tryz.func66,irOk66,by kernel_rfl⟩
  · cases h; exact ⟨Tryz.f67,Tryz.func67,irOk67,by kernel_rfl⟩
  · cases h; exact ⟨Tryz.f68,Tryz.func68,irOk68,by kernel_rfl⟩
  · cases h; exact ⟨Tryz.f69,Tryz.func69,irOk69,by kernel_rfl⟩
  · cases h; exact ⟨Tryz.f70,Tryz.func70,irOk70,by kernel_rfl⟩
  · cases h; exact ⟨Tryz.f88,Tryz.func88,irOk88,by kernel_rfl⟩
  · cases h; exact ⟨Tryz.f94,Tryz.func94,irOk94,by kernel_rfl⟩
  · cases h; exact ⟨Tryz.f95,Tryz.func95,irOk95,by kernel_rfl⟩
  · cases h; exact ⟨Tryz.f96,Tryz.func96,irOk96,by kernel_rfl⟩
  · cases h; exact ⟨Tryz.f97,Tryz.func97,irOk97,by kernel_rfl⟩
  · cases h; exact ⟨Tryz.f98,Tryz.func98,irOk98,by kernel_rfl⟩
  · cases h; exact ⟨Tryz.f99,Tryz.func99,irOk99,by kernel_rfl⟩
  · cases h; exact ⟨Tryz.f106,Tryz.func106,irOk106,by kernel_rfl⟩
  · cases h; exact ⟨Tryz.f107,Tryz.func107,irOk107,by kernel_rfl⟩
  · cases h; exact ⟨Tryz.f108,Tryz.func108,irOk108,by kernel_rfl⟩
  · cases h; exact ⟨Tryz.f109,Tryz.func109,irOk109,by kernel_rfl⟩
  · cases h; exact ⟨Tryz.f110,Tryz.func110,irOk110,by kernel_rfl⟩
  · cases h; exact ⟨Tryz.f111,Tryz.func111,irOk111,by kernel_rfl⟩
  · cases h; exact ⟨Tryz.f112,Tryz.func112,irOk112,by kernel_rfl⟩
  · cases h; exact ⟨Tryz.f113,Tryz.func113,irOk113,by kernel_rfl⟩
  · cases h; exact ⟨Tryz.f114,Tryz.func114,irOk114,by kernel_rfl⟩
  · cases h
theorem linkedC : Linked Tryz.prog sq ⟨0,fnC,fun _ _ _ _ _ => False⟩:=by
  intro f bfn h
  simp only [fnC] at h
  split at h
  · cases h; exact ⟨Tryz.f126,Tryz.func126,irOk126,by kernel_rfl⟩
  · cases h; exact ⟨Tryz.f137,Tryz.func137,irOk137,by kernel_rfl⟩
  · cases h; exact ⟨Tryz.f148,Tryz.func148,irOk148,by kernel_rfl⟩
  · cases h; exact ⟨Tryz.f149,Tryz.func149,irOk149,by kernel_rfl⟩
  · cases h; exact ⟨Tryz.f159,Tryz.func159,irOk159,by kernel_rfl⟩
  · cases h; exact ⟨Tryz.f160,Tryz.func160,irOk160,by kernel_rfl⟩
  · cases h; exact ⟨Tryz.f161,Tryz.func161,irOk161,by kernel_rfl⟩
  · cases h; exact ⟨Tryz.f164,Tryz.func164,irOk164,by kernel_rfl⟩
  · cases h; exact ⟨Tryz.f165,Tryz.func165,irOk165,by kernel_rfl⟩
  · cases h; exact ⟨Tryz.f166,Tryz.func166,irOk166,by kernel_rfl⟩
  · cases h; exact ⟨Tryz.f167,Tryz.func167,irOk167,by kernel_rfl⟩
  · cases h; exact ⟨Tryz.f168,Tryz.func168,irOk168,by kernel_rfl⟩
  · cases h; exact ⟨Tryz.f169,Tryz.func169,irOk169,by kernel_rfl⟩
  · cases h; exact ⟨Tryz.f170,Tryz.func170,irOk170,by kernel_rfl⟩
  · cases h; exact ⟨Tryz.f171,Tryz.func171,irOk171,by kernel_rfl⟩
  · cases h; exact ⟨Tryz.f172,Tryz.func172,irOk172,by kernel_rfl⟩
  · cases h; exact ⟨Tryz.f173,Tryz.func173,irOk173,by kernel_rfl⟩
  · cases h; exact ⟨Tryz.f174,Tryz.func174,irOk174,by kernel_rfl⟩
  · cases h; exact ⟨Tryz.f175,Tryz.func175,irOk175,by kernel_rfl⟩
  · cases h; exact ⟨Tryz.f183,Tryz.func183,irOk183,by kernel_rfl⟩
  · cases h; exact ⟨Tryz.f184,Tryz.func184,irOk184,by kernel_rfl⟩
  · cases h
theorem linkedD : Linked Tryz.prog sq ⟨0,fnD,fun _ _ _ _ _ => False⟩:=by
  intro f bfn h
  simp only [fnD] at h
  split at h
  · cases h; exact ⟨Tryz.f188,Tryz.func188,irOk188,by kernel_rfl⟩
  · cases h; exact ⟨Tryz.f190,Tryz.func190,irOk190,by kernel_rfl⟩
  · cases h; exact ⟨Tryz.f201,Tryz.func201,irOk201,by kernel_rfl⟩
  · cases h; exact ⟨Tryz.f206,Tryz.func206,irOk206,by kernel_rfl⟩
  · cases h; exact ⟨Tryz.f211,Tryz.func211,irOk211,by kernel_rfl⟩
  · cases h; exact ⟨Tryz.f212,Tryz.func212,irOk212,by kernel_rfl⟩
  · cases h; exact ⟨Tryz.f214,Tryz.func214,irOk214,by kernel_rfl⟩
  · cases h; exact ⟨Tryz.f218,Tryz.func218,irOk218,by kernel_rfl⟩
  · cases h; exact ⟨Tryz.f219,Tryz.func219,irOk219,by kernel_rfl⟩
  · cases h; exact ⟨Tryz.f234,Tryz.func234,irOk234,by kernel_rfl⟩
  · cases h; exact ⟨Tryz.f243,Tryz.func243,irOk243,by kernel_rfl⟩
  · cases h; exact ⟨Tryz.f244,Tryz.func244,irOk244,by kernel_rfl⟩
  · cases h; exact ⟨Tryz.f245,Tryz.func245,irOk245,by kernel_rfl⟩
  · cases h
theorem linked (base : Nat) : Linked Tryz.prog sq (gam base):=by
  intro f bfn h
  have h : fnOf f = some bfn:=h
  unfold fnOf at h
  split at h
  · next x hx => exact linkedA f bfn (by cases h; exact hx)
  split at h
  · next x hx => exact linkedB f bfn (by cases h; exact hx)
  split at h
  · next x hx => exact linkedC f bfn (by cases h; exact hx)
  exact linkedD f bfn h
end Go.Proofs.YtbnmhbmhafbmiaaGreatDoor.W
end
