/-
Texts of our own, put together: H13, O1, X1.
-/
import Derived.Test.YtcnkhkmapgbodaaGreatDoorK7
import Derived.Lib.SmallJoins
import Derived.Deep.Grids
import Derived.Deep.Matrix
import Derived.ChangeArms
import Derived.KernelRfl
import Derived.Shelf.Strconv.Itoa3
import Derived.Shelf.Slices.Delete
import Derived.Shelf.Abstract
import Derived.Ground.NamesProg
import Derived.Ground.Names2Prog
section
namespace Go.Proofs.YtcnkhkmapgbodaaGreatDoor.W
set_option linter.unusedVariables false
set_option linter.unusedSimpArgs false
open Go.B
open Go.Au
variable {base : Nat}
attribute [local simp] wpC_skip wpC_region wpC_seq wpC_true wpC_false wpC_block wpC_exit wpC_ret wpO_nil wpO_n wpO_tt wpO_ff wpO_tf wpO_ft wpO_u wpS_mov wpS_pick wpS_build wpS_load wpS_store wpS_nilck wpS_bin wpS_beq wpS_isnil wpS_eqs wpS_not wpS_neg wpS_conv wpS_lea wpS_fld wpS_idx wpS_idxs wpS_slice wpS_sslice wpS_mkfn wpS_mset wpS_look wpS_ext wpS_len wpS_new wpS_box wpS_mk wpS_mkmap wpS_mksl wpS_app wpS_fn wpS_call after_some pthen_n pthen_x pthen_r pin BExit.outOf puto_some puto_none put_eq put_ne Opd.ev argEnv op1_mov op1_pick op1_new op1_box op1_load op1_nilck op1_bin op1_beq op1_not op1_neg op1_conv op1_lea op1_fld op1_len0 op1_len1 op1_idx op1_ext op1_build op1_mk op1_stw op1_mksl op1_eqs pureBin isShift resOf resVals val_tmp val_cell oneOf one_int cells_int one_bool cells_bool one_str cells_str one_nilp cells_nilp one_ptr cells_ptr one_nils cells_nils one_sl cells_sl one_sle cells_sle one_nilm cells_nilm one_mp cells_mp one_nilf cells_nilf one_fn cells_fn one_nili cells_nili cells_agg isSl_sl slen_sl sat_sl make_of asm rtOk wpS_b2s op1_b2s wpS_imax op1_imax wpS_imin op1_imin wpS_i2s op1_i2s op1_isnil Option.map_some gam_base op1_app op1_idxs wpS_idxa op1_idxa op1_sslice bound_none bound_some nat_of op1_mkmap op1_mset op1_look op1_len2 op1_mkfn Go.B.fillB Has
/-- The law of a relation with a code. -/
theorem law_RestSet (m rest : Int) (H : BH) : FnDoes (gam base) 8 [encI m, encI rest] H fun u _ => u = .bool true := by
  refine FnDoes.of (fn := ir8) rfl ?_
  obtain ⟨l, hl⟩ : ∃ l : Nat, l = 1000 := ⟨_, rfl⟩
  obtain ⟨G, hG⟩ : ∃ G, G = restN l m rest := ⟨_, rfl⟩
  have hgood : GoodC 1 G := by rw [hG]; exact restN_good l m rest
  have gd := GoodR.facts hgood.good
  have hs := fun H => s_RestSet (base := base) l hl m rest H
  have hi := fun H => i_RestSet (base := base) l hl m rest H
  rw [← hG] at hs hi
  obtain ⟨gd1, gd2, gd3⟩ := gd
  obtain ⟨T, S, acc, rows, hr4⟩ : ∃ T S acc rows, resQ 1 G = (T, S, acc, rows) := ⟨_, _, _, _, rfl⟩
  rw [hr4] at gd1 gd2 gd3
  rw [show wd 1 = 2 from by decide] at gd3
  simp only [] at gd1 gd2 gd3
  have take : ∀ {H K : BH} {v : BV}, RelR base H 1 G v K → H.Keeps K → ∃ m, v = .tup [m, encN G.2] ∧ OwnQ base H K T S acc rows m [] := fun {H K v} h k => by
    obtain ⟨m, e, h⟩ := h.ownR k
    unfold OwnR at h
    rw [hr4] at h
    exact ⟨m, e, h⟩
  obtain ⟨cG, hcG⟩ : ∃ cG, cG = G.2 := ⟨_, rfl⟩
  rw [← hcG] at take
  have big1 : acc.length ≤ 4611686018427387904 := by omega
  have big2 : rows.length ≤ 4611686018427387904 := by omega
  have big3 : ∀ r ∈ rows, r.length ≤ 4611686018427387904 := fun r hr => by rw [gd3 r hr]; decide
  simp [ir8]
  refine (hs H).step fun vE K2 k2 hE0 => ?_
  obtain ⟨mE, rfl, hE⟩ := take hE0 k2
  obtain ⟨uE, xE, eE, uE1, xE1⟩ := OwnQ.one hE
  have hEr := hE.rd
  subst eE
  simp [uE1, xE1]
  intro n3 b3 f3
  obtain ⟨K3, g3, o3⟩ := (Own.start (base := base) (H := K2) |>.new f3 b3 (s := .arr 29 [.int .i64 0, .int .i64 0, .nils, .nils])).putAll 0 (b := n3) (n := 4) (ds := [.int .i64 T, .int .i64 S, uE, xE]) rfl rfl rfl (by simp [uE1, xE1]) (rt := none) rfl
  have r3 := rd_all (o3.at 0 (b := n3) rfl) (n := 4) (rt := none) rfl rfl
  simp [make_of f3 b3, g3]
  have hEr := hEr.keeps o3.keeps
  have kk := k2.trans o3.keeps
  refine (hi K3).step fun vG K6 k6 hG0 => ?_
  obtain ⟨mG, rfl, hG1⟩ := take hG0 k6
  obtain ⟨uG, xG, eG, uG1, xG1⟩ := OwnQ.one hG1
  subst eG
  obtain ⟨Y, oY, hY⟩ := hG1.rows
  simp [uG1, xG1]
  intro n6 b6 f6
  obtain ⟨K7, g7, o7⟩ := (oY.new f6 b6 (s := .arr 29 [.int .i64 0, .int .i64 0, .nils, .nils])).putAll 0 (b := n6) (n := 4) (ds := [.int .i64 T, .int .i64 S, uG, xG]) rfl rfl rfl (by simp [uG1, xG1]) (rt := none) rfl
  have o7 : Own base K3 K7 ((some n6, .arr 29 [.int .i64 T, .int .i64 S, uG, xG]) :: Y) := o7
  have r6 := rd_all (o7.at 0 (b := n6) rfl) (n := 4) (rt := none) rfl rfl
  have r3' := rd_keeps o7.keeps r3
  simp [make_of f6 b6, g7, r6, r3']
  have q7 := hY (H' := K3) (K' := K7) (Z := [(some n6, .arr 29 [.int .i64 T, .int .i64 S, uG, xG])]) (o7.perm (List.perm_append_comm (l₂ := [_])))
  refine (q_rel (base := base) T S acc rows _ _ K7 q7.rd (hEr.keeps o7.keeps) big1 big2 big3).step fun v' K8 k8 hv' => ?_
  subst hv'
  have q8 := q7.call k8
  have r6 := rd_keeps k8 r6
  simp [r6]
  have hpw : rows.length * 2 ≤ 150 * 2 := by omega
  refine (mark_rel (base := base) 1 2 q8 gd3 (by omega) (by omega)).step fun v13 K13 hh => ?_
  obtain ⟨rfl, q13⟩ := hh
  have o13 := q13.rest
  have r6 := rd_all (o13.at 0 (b := n6) rfl) (n := 4) (rt := none) rfl rfl
  simp [r6]
  refine (held_rel (base := base) q13 (by omega) (by omega)).step fun v14 K14 k14 hv14 => ?_
  subst hv14
  have neg2 : ¬ (1 : Int) + (acc.length : Int) + (rows.length : Int) * 2 < 0 := by omega
  simp [neg2]
  refine (hi K14).step fun vN K16 k16 hN0 => ?_
  obtain ⟨mN, rfl, hN⟩ := take hN0 k16
  obtain ⟨uN, xN, eN, uN1, xN1⟩ := OwnQ.one hN
  subst eN
  simp [uN1, xN1]
  intro n11 b11 f11
  obtain ⟨K17, g17, o17⟩ := (Own.start (base := base) (H := K16) |>.new f11 b11 (s := .arr 29 [.int .i64 0, .int .i64 0, .nils, .nils])).putAll 0 (b := n11) (n := 4) (ds := [.int .i64 T, .int .i64 S, uN, xN]) rfl rfl rfl (by simp [uN1, xN1]) (rt := none) rfl
  have r11 := rd_all (o17.at 0 (b := n11) rfl) (n := 4) (rt := none) rfl rfl
  have q17 := ((q13.call k14).call k16).call o17.keeps
  have r3' := rd_keeps q17.keeps r3
  simp [make_of f11 b11, g17, r11, r3']
  refine (q_rel (base := base) T S acc rows _ _ K17 (hN.rd.keeps o17.keeps) (hEr.keeps q17.keeps) big1 big2 big3).step fun v' K18 k18 hv' => ?_
  subst hv'
  have q18 := q17.call k18
  have r6 := rd_all (q18.rest.at 0 (b := n6) rfl) (n := 4) (rt := none) rfl rfl
  simp [r6]
  refine (held_rel (base := base) q18 (by omega) (by omega)).step fun v19 K19 k19 hv19 => ?_
  subst hv19
  simp [neg2]
  exact kk.trans (q18.keeps.trans k19)
end Go.Proofs.YtcnkhkmapgbodaaGreatDoor.W
end

section
namespace Go.Proofs.YtcnkhkmapgbodaaGreatDoor.W
set_option linter.unusedVariables false
set_option linter.unusedSimpArgs false
open Go.B
variable {base : Nat}
attribute [local simp] wpC_skip wpC_region wpC_seq wpC_true wpC_false wpC_block wpC_exit wpC_ret wpO_nil wpO_n wpO_tt wpO_ff wpO_tf wpO_ft wpO_u wpS_mov wpS_pick wpS_build wpS_load wpS_store wpS_nilck wpS_bin wpS_beq wpS_isnil wpS_eqs wpS_not wpS_neg wpS_conv wpS_lea wpS_fld wpS_idx wpS_idxs wpS_slice wpS_sslice wpS_mkfn wpS_mset wpS_look wpS_ext wpS_len wpS_new wpS_box wpS_mk wpS_mkmap wpS_mksl wpS_app wpS_fn wpS_call after_some pthen_n pthen_x pthen_r pin BExit.outOf puto_some puto_none put_eq put_ne Opd.ev argEnv op1_mov op1_pick op1_new op1_box op1_load op1_nilck op1_bin op1_beq op1_not op1_neg op1_conv op1_lea op1_fld op1_len0 op1_len1 op1_idx op1_ext op1_build op1_mk op1_stw op1_mksl op1_eqs pureBin isShift resOf resVals val_tmp val_cell oneOf one_int cells_int one_bool cells_bool one_str cells_str one_nilp cells_nilp one_ptr cells_ptr one_nils cells_nils one_sl cells_sl one_sle cells_sle one_nilm cells_nilm one_mp cells_mp one_nilf cells_nilf one_fn cells_fn one_nili cells_nili cells_agg isSl_sl slen_sl sat_sl make_of asm rtOk wpS_b2s op1_b2s wpS_imax op1_imax wpS_imin op1_imin wpS_i2s op1_i2s op1_isnil Option.map_some gam_base op1_app op1_idxs wpS_idxa op1_idxa op1_sslice bound_none bound_some nat_of op1_mkmap op1_mset op1_look op1_len2 op1_mkfn Go.B.fillB Has
section
variable {H : Type} {enc : TypeId × Value → H} {W : World} {held : Bool}
theorem u2 : Tryz.prog.underlying 2 = some (.int .i64) := by kernel_rfl
theorem u4 : Tryz.prog.underlying 4 = some .bool := by kernel_rfl
end
end Go.Proofs.YtcnkhkmapgbodaaGreatDoor.W
end

section
namespace Go.Proofs
open Go.Shelf Go.B
def Tryz.laysItoa_ren : Go.Shelf.Ren := ⟨fun | 171 => 206 | 243 => 217 | 246 => 220 | 283 => 222 | 284 => 223 | 285 => 224 | 286 => 225 | 129 => 193 | 317 => 226 | 318 => 227 | 319 => 228 | 320 => 229 | 337 => 230 | 338 => 231 | n => n, fun | 3 => 3 | 9 => 9 | 2 => 2 | 4 => 4 | 171 => 202 | 0 => 0 | 53 => 172 | 37 => 116 | 5 => 5 | 173 => 204 | 212 => 207 | 51 => 170 | 20 => 20 | 213 => 208 | 46 => 108 | 232 => 209 | 233 => 210 | n => n, fun | 17 => 0 | 18 => 1 | 19 => 2 | n => n⟩
theorem Tryz.laysItoa : Go.Proofs.LaysM.n171 Tryz.prog Tryz.laysItoa_ren where
  mixed := by kernel_rfl
  f129 := Tryz.func193.trans (congrArg some (by kernel_rfl))
  f171 := Tryz.func206.trans (congrArg some (by kernel_rfl))
  f243 := Tryz.func217.trans (congrArg some (by kernel_rfl))
  f246 := Tryz.func220.trans (congrArg some (by kernel_rfl))
  f283 := Tryz.func222.trans (congrArg some (by kernel_rfl))
  f284 := Tryz.func223.trans (congrArg some (by kernel_rfl))
  f285 := Tryz.func224.trans (congrArg some (by kernel_rfl))
  f286 := Tryz.func225.trans (congrArg some (by kernel_rfl))
  f317 := Tryz.func226.trans (congrArg some (by kernel_rfl))
  f318 := Tryz.func227.trans (congrArg some (by kernel_rfl))
  f319 := Tryz.func228.trans (congrArg some (by kernel_rfl))
  f320 := Tryz.func229.trans (congrArg some (by kernel_rfl))
  f337 := Tryz.func230.trans (congrArg some (by kernel_rfl))
  f338 := Tryz.func231.trans (congrArg some (by kernel_rfl))
  t0 := Tryz.underlying0
  a0 := Tryz.isAgg0
  z0 := Tryz.sizeOf0
  v0 := Tryz.zeroValue0
  t2 := Tryz.underlying2
  a2 := Tryz.isAgg2
  z2 := Tryz.sizeOf2
  v2 := Tryz.zeroValue2
  t3 := Tryz.underlying3
  a3 := Tryz.isAgg3
  z3 := Tryz.sizeOf3
  v3 := Tryz.zeroValue3
  t4 := Tryz.underlying4
  a4 := Tryz.isAgg4
  z4 := Tryz.sizeOf4
  v4 := Tryz.zeroValue4
  t5 := Tryz.underlying5
  a5 := Tryz.isAgg5
  z5 := Tryz.sizeOf5
  v5 := Tryz.zeroValue5
  t9 := Tryz.underlying9
  a9 := Tryz.isAgg9
  z9 := Tryz.sizeOf9
  v9 := Tryz.zeroValue9
  t20 := Tryz.underlying20
  a20 := Tryz.isAgg20
  z20 := Tryz.sizeOf20
  v20 := Tryz.zeroValue20
  t37 := Tryz.underlying116
  a37 := Tryz.isAgg116
  z37 := Tryz.sizeOf116
  v37 := Tryz.zeroValue116
  t46 := Tryz.underlying108
  a46 := Tryz.isAgg108
  z46 := Tryz.sizeOf108
  v46 := Tryz.zeroValue108
  t51 := Tryz.underlying170
  a51 := Tryz.isAgg170
  z51 := Tryz.sizeOf170
  v51 := Tryz.zeroValue170
  t53 := Tryz.underlying172
  a53 := Tryz.isAgg172
  z53 := Tryz.sizeOf172
  v53 := Tryz.zeroValue172
  t171 := Tryz.underlying202
  a171 := Tryz.isAgg202
  z171 := Tryz.sizeOf202
  v171 := Tryz.zeroValue202
  t173 := Tryz.underlying204
  a173 := Tryz.isAgg204
  z173 := Tryz.sizeOf204
  v173 := Tryz.zeroValue204
  t212 := Tryz.underlying207
  a212 := Tryz.isAgg207
  z212 := Tryz.sizeOf207
  v212 := Tryz.zeroValue207
  t213 := Tryz.underlying208
  a213 := Tryz.isAgg208
  z213 := Tryz.sizeOf208
  t232 := Tryz.underlying209
  a232 := Tryz.isAgg209
  z232 := Tryz.sizeOf209
  v232 := Tryz.zeroValue209
  t233 := Tryz.underlying210
  a233 := Tryz.isAgg210
  z233 := Tryz.sizeOf210
  v233 := Tryz.zeroValue210
  g17 := by kernel_rfl
  g18 := by kernel_rfl
  g19 := by kernel_rfl
  i0 := by kernel_rfl
  i2 := by kernel_rfl
  i3 := by kernel_rfl
  i4 := by kernel_rfl
  i5 := by kernel_rfl
  i9 := by kernel_rfl
  i20 := by kernel_rfl
  i37 := by kernel_rfl
  i46 := by kernel_rfl
  i51 := by kernel_rfl
  i53 := by kernel_rfl
  i171 := by kernel_rfl
  i173 := by kernel_rfl
  i212 := by kernel_rfl
  i232 := by kernel_rfl
  i233 := by kernel_rfl
  m17 := by kernel_rfl
  m18 := by kernel_rfl
  m19 := by kernel_rfl
def Tryz.laysDel_ren : Go.Shelf.Ren := ⟨fun | 23 => 146 | n => n, fun | 22 => 84 | 3 => 3 | 4 => 4 | 0 => 0 | n => n, fun | n => n⟩
theorem Tryz.laysDel : Go.Proofs.Lays2.n23 Tryz.prog Tryz.laysDel_ren where
  mixed := by kernel_rfl
  f23 := Tryz.func146.trans (congrArg some (by kernel_rfl))
  t0 := Tryz.underlying0
  a0 := Tryz.isAgg0
  z0 := Tryz.sizeOf0
  v0 := Tryz.zeroValue0
  t3 := Tryz.underlying3
  a3 := Tryz.isAgg3
  z3 := Tryz.sizeOf3
  v3 := Tryz.zeroValue3
  t4 := Tryz.underlying4
  a4 := Tryz.isAgg4
  z4 := Tryz.sizeOf4
  v4 := Tryz.zeroValue4
  t22 := Tryz.underlying84
  a22 := Tryz.isAgg84
  z22 := Tryz.sizeOf84
  v22 := Tryz.zeroValue84
  i3 := by kernel_rfl
def Tryz.laysIns_ren : Go.Shelf.Ren := ⟨fun | 21 => 198 | 27 => 215 | 28 => 216 | 35 => 219 | 39 => 221 | n => n, fun | 22 => 84 | 3 => 3 | 4 => 4 | 0 => 0 | n => n, fun | n => n⟩
theorem Tryz.laysIns : Go.Proofs.Lays2.n21 Tryz.prog Tryz.laysIns_ren where
  mixed := by kernel_rfl
  f21 := Tryz.func198.trans (congrArg some (by kernel_rfl))
  f27 := Tryz.func215.trans (congrArg some (by kernel_rfl))
  f28 := Tryz.func216.trans (congrArg some (by kernel_rfl))
  f35 := Tryz.func219.trans (congrArg some (by kernel_rfl))
  f39 := Tryz.func221.trans (congrArg some (by kernel_rfl))
  t0 := Tryz.underlying0
  a0 := Tryz.isAgg0
  z0 := Tryz.sizeOf0
  v0 := Tryz.zeroValue0
  t3 := Tryz.underlying3
  a3 := Tryz.isAgg3
  z3 := Tryz.sizeOf3
  v3 := Tryz.zeroValue3
  t4 := Tryz.underlying4
  a4 := Tryz.isAgg4
  z4 := Tryz.sizeOf4
  v4 := Tryz.zeroValue4
  t22 := Tryz.underlying84
  a22 := Tryz.isAgg84
  z22 := Tryz.sizeOf84
  v22 := Tryz.zeroValue84
  i3 := by kernel_rfl
theorem tryz_ext {base : Nat} {w0 : World} (htab : Lib.TabIs Tryz.prog w0 "internal/strconv.uint64pow10" .u64 Lib.pow10Tab) : Sound Tryz.prog base w0 False (orC (itoaB 206) (orC (delB base 146 3) (insB base 198 3))) :=
  orC_sound (itoaB_sound (enters_of Tryz.func206 rfl rfl) htab fun n h0 h1 w ht => Any.strconv_Itoa Tryz.laysItoa n h0 h1 w ht)
    (orC_sound (delB_sound (enters_of Tryz.func146 rfl rfl) (by kernel_rfl) fun blk off cap i j zs w hH hc hm hij hj => Any.slices_Delete_int Tryz.laysDel blk off cap i j zs w hH hc hm hij hj)
      (insB_sound (enters_of Tryz.func198 rfl rfl) (by kernel_rfl) (insDoes_of Tryz.laysIns)))
theorem tryz_framed {base : Nat} : Framed (orC (itoaB 206) (orC (delB base 146 3) (insB base 198 3))) := orC_framed (itoaB_framed 206) (orC_framed (delB_framed base 146 3) (insB_framed base 198 3))
end Go.Proofs
end
