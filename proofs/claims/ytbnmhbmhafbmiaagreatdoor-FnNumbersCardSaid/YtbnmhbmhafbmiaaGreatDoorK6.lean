/-
Texts of our own, put together: H6, H7, H8, H9, H10, H11, H12, J1, J2, J3, J4, J8, J9, J10, J11, J12, J13, J14, T1, T2, I1, I2, I5, Z1, Z2, Z3, Z4, Z5, Z6, Z7, O1, O3, X1.
-/
import Derived.Test.YtbnmhbmhafbmiaaGreatDoorK5
import Derived.Laws.Strings
import Derived.Lib.SmallJoins
import Derived.Deep.Grids
import Derived.Deep.Matrix
import Derived.ChangeArms
import Derived.KernelRfl
import Derived.ChangeSlices
import Derived.WideShapes
import Derived.Shelf.Strconv.Itoa3
import Derived.Shelf.Slices.Delete
import Derived.Shelf.Abstract
import Derived.Ground.NamesProg
import Derived.Ground.Names2Prog
section
namespace Go.Proofs.YtbnmhbmhafbmiaaGreatDoor.W
set_option linter.unusedVariables false
set_option linter.unusedSimpArgs false
open Go.B
open Go.Au
variable {base : Nat}
attribute [local simp] wpC_skip wpC_region wpC_seq wpC_true wpC_false wpC_block wpC_exit wpC_ret wpO_nil wpO_n wpO_tt wpO_ff wpO_tf wpO_ft wpO_u wpS_mov wpS_pick wpS_build wpS_load wpS_store wpS_nilck wpS_bin wpS_beq wpS_isnil wpS_eqs wpS_not wpS_neg wpS_conv wpS_lea wpS_fld wpS_idx wpS_idxs wpS_slice wpS_sslice wpS_mkfn wpS_mset wpS_look wpS_ext wpS_len wpS_new wpS_box wpS_mk wpS_mkmap wpS_mksl wpS_app wpS_fn wpS_call after_some pthen_n pthen_x pthen_r pin BExit.outOf puto_some puto_none put_eq put_ne Opd.ev argEnv op1_mov op1_pick op1_new op1_box op1_load op1_nilck op1_bin op1_beq op1_not op1_neg op1_conv op1_lea op1_fld op1_len0 op1_len1 op1_idx op1_ext op1_build op1_mk op1_stw op1_mksl op1_eqs pureBin isShift resOf resVals val_tmp val_cell oneOf one_int cells_int one_bool cells_bool one_str cells_str one_nilp cells_nilp one_ptr cells_ptr one_nils cells_nils one_sl cells_sl one_sle cells_sle one_nilm cells_nilm one_mp cells_mp one_nilf cells_nilf one_fn cells_fn one_nili cells_nili cells_agg isSl_sl slen_sl sat_sl make_of asm rtOk wpS_b2s op1_b2s wpS_imax op1_imax wpS_imin op1_imin wpS_i2s op1_i2s op1_isnil Option.map_some gam_base op1_app op1_idxs wpS_idxa op1_idxa op1_sslice bound_none bound_some nat_of op1_mkmap op1_mset op1_look op1_len2 op1_mkfn Go.B.fillB Has
theorem i_isTape (T n : Int) (a u x : BV) (H : BH) (ha : a.one = true) (hu : u.one = true) (hx : x.one = true) (hT : -1000≤T∧T≤1000) : FnDoes (gam base) 169 [.agg [.int .i64 T,a,u,x],.int .i64 n] H fun v _ => v = .bool (inB n 0 (T - 1)):=by
  refine FnDoes.of (fn:=ir169) rfl ?_
  simp [ir169,ha,hu,hx]
  intro n2 b2 f2
  have o1:=Own.start (base:=base) (H:=H) |>.new f2 b2 (s:=.arr 25 [.int .i64 T,a,u,x])
  have r0:=rd_ptr (o1.at 0 (b:=n2) rfl) (rt:=none) (j:=0) (c:=.int .i64 T) rfl rfl
  have ws : IntKind.i64.wrap (T - 1) = T - 1:=w64 (by omega) (by omega)
  simp [make_of f2 b2,r0,ws]
  refine callP (i_within n 0 (T - 1) _) ?_
  simp
  exact o1.keeps
theorem i_checkTape (t s tape : Nat) (ht1 : 1≤t) (ht : t + 1≤3) (htape : tape≤t) (A : Aut) (m : BV) (H : BH) (hA : RdRel H (t + 1) s A m) (hok : A.Ok (wd (t + 1))) (hs : s < A.acc.length) (hn : A.acc.length≤150) :
    FnDoes (gam base) 112 [m,encN tape] H fun v _ => v = encN 0:=by
  refine FnDoes.of (fn:=ir112) rfl ?_
  have g1:=hA
  obtain ⟨u,x,rfl,hu,hx⟩:=hA
  have u1:=hu.one
  have x1:=one_of_isSl hx.isSl
  obtain ⟨T,hT⟩ : ∃ T,T = t + 1:=⟨_,rfl⟩
  rw [← hT] at g1 hok ⊢
  simp [ir112,u1,x1]
  intro n2 b2 f2
  have o1:=Own.start (base:=base) (H:=H) |>.new f2 b2 (s:=.arr 25 [encN T,encN s,u,x])
  have r2:=rd_all (o1.at 0 (b:=n2) rfl) (n:=4) (rt:=none) rfl rfl
  simp [make_of f2 b2,r2]
  refine (i_valid (base:=base) T s _ _ _ _ (g1.keeps o1.keeps).raw (by omega)).step fun v K1 k1 hv => ?_
  rw [ok_valid (by omega) (by omega) hok hs hn] at hv
  subst hv
  have o2:=o1.call k1
  have r2:=rd_all (o2.at 0 (b:=n2) rfl) (n:=4) (rt:=none) rfl rfl
  simp [r2]
  refine (i_isTape (base:=base) T tape (encN s) u x _ rfl u1 x1 (by omega)).step fun v K2 k2 hv => ?_
  have hin : inB tape 0 ((T : Int) - 1) = true:=by simp [inB]; omega
  rw [hin] at hv
  subst hv
  have r0:=rd_ptr ((o2.call k2).at 0 (b:=n2) rfl) (rt:=none) (j:=0) (c:=encN T) rfl rfl
  have hT1 : ((T : Int) == 1) = false:=by simp; omega
  simp [r0,hT1]
  exact (o2.call k2).keeps
theorem someN_good {l t tape s : Nat} (ht : t + 1≤3) {A : Aut} : GoodC t (someN l t tape A):=by
  unfold someN
  split
  · exact .none _ _ (by omega)
  · next h =>
    obtain ⟨h1,h2⟩:=setA_ok (l:=l) (t:=t) (tape:=tape) (A:=A) (by omega)
    have h3:=(TA_spec (by omega) h1 (s:=0) h1.pos).1
    rw [h2] at h3
    exact .told h3.ok
theorem i_SomeOn (l : Nat) (hl : l = 1000) (t s tape : Nat) (ht1 : 1≤t) (ht : t + 1≤3) (htape : tape≤t) (A : Aut) (m : BV) (H : BH) (hA : RdRel H (t + 1) s A m) (hok : A.Ok (wd (t + 1))) (hs : s < A.acc.length) (hn : A.acc.length≤150) :
    FnDoes (gam base) 70 [m,encN tape] H fun v K => RelR base H t (someN l t tape (TA (t + 1) (A.lang s))) v K:=by
  obtain ⟨R,hR⟩ : ∃ R : BV→BH→Prop,R = fun v K => RelR base H t (someN l t tape (TA (t + 1) (A.lang s))) v K:=⟨_,rfl⟩
  rw [← hR]
  refine FnDoes.of (fn:=ir70) rfl ?_
  have g1:=hA
  obtain ⟨u,x,rfl,hu,hx⟩:=hA
  have u1:=hu.one
  have x1:=one_of_isSl hx.isSl
  obtain ⟨hT1,hl1⟩:=TA_spec ht hok hs
  obtain ⟨T,hT⟩ : ∃ T,T = t + 1:=⟨_,rfl⟩
  have e1 : (encN (t + 1)) = encN T:=by rw [hT]
  rw [e1] at g1 ⊢
  simp [ir70,u1,x1]
  intro n2 b2 f2
  simp [make_of f2 b2]
  intro n4 b4 f4
  have o1:=Own.start (base:=base) (H:=H) |>.new f2 b2 (s:=.arr 25 [encN T,encN s,u,x]) |>.new f4 b4 (s:=.arr 25 [.int .i64 0,.int .i64 0,.nils,.nils])
  have r2:=rd_all (o1.at 1 (b:=n2) rfl) (n:=4) (rt:=none) rfl rfl
  simp [make_of f4 b4,r2]
  refine (i_checkTape (base:=base) t s tape ht1 ht htape A _ _ (g1.keeps o1.keeps) hok hs hn).step fun v K1 k1 hv => ?_
  subst hv
  have o2:=o1.call k1
  have r2:=rd_all (o2.at 1 (b:=n2) rfl) (n:=4) (rt:=none) rfl rfl
  simp [r2]
  refine (i_tidyOf (base:=base) (t + 1) s ht A _ _ (g1.keeps o2.keeps) hok hs (by omega)).step fun v K2 k2 hv => ?_
  have hv:=hv.rd
  have o3:=o2.call k2
  simp
  refine (i_some (base:=base) l hl t tape ht1 ht htape _ v K2 hv hT1.ok (by omega)).step fun r K3 k3 hr => ?_
  have o4:=o3.call k3
  obtain ⟨B,hB⟩ : ∃ B,B = setA l t tape (TA (t + 1) (A.lang s)):=⟨_,rfl⟩
  have hsN : someN l t tape (TA (t + 1) (A.lang s)) = if l < B.acc.length then (none,3) else told (TA t (B.lang 0)):=by
    unfold someN
    rw [← hB]
    split
    · rfl
    · next h => rw [hB,(setA_ok (by rw [← hB]; omega)).2]
  rw [hsN] at hR
  rw [← hB] at hr
  unfold GrowR at hr
  by_cases hbig : l < B.acc.length
  · rw [if_pos ⟨by omega,hbig⟩] at hr
    subst hr
    simp
    intro n7 b7 f7
    have o5:=o4.new f7 b7 (s:=.arr 77 [.int .i64 0,.int .i64 0,.nils,.nils])
    obtain ⟨K4,g4,o6⟩:=o5.putAll 0 (b:=n7) rfl (n:=4) (ds:=[encN 0,encN 0,.nils,.nils]) rfl rfl rfl (rt:=none) rfl
    obtain ⟨m,K8,e8,g8,r8,kk,hrel⟩:=rel_end (base:=base) (t:=t) (r:=(none,3)) (o6.sub (M:=[(some n4,.arr 25 [.int .i64 0,.int .i64 0,.nils,.nils]),(some n2,.arr 25 [encN T,encN s,u,x])]) (.cons _ (List.Sublist.refl _))) (i:=0) (n2:=n4) rfl rfl (BH.Keeps.refl _) rfl
    cases e8
    have g8' : K4.wr base none 4 (.ptr n4 0) (.agg [.int .i64 0,.int .i64 0,.nils,.nils]) = some K8:=g8
    simp [make_of f7 b7,g4,g8',r8]
    rw [hR,if_pos hbig]
    exact ⟨kk,hrel⟩
  · rw [if_neg (fun h => hbig h.2)] at hr
    obtain ⟨m,rfl,hm⟩:=hr
    have hm:=hm.rd
    obtain ⟨mu,mx,rfl,hmu,hmx⟩:=id hm
    have mu1:=hmu.one
    have mx1:=one_of_isSl hmx.isSl
    have hBok : B.Ok (wd t):=by rw [hB]; exact (setA_ok (by rw [← hB]; omega)).1
    simp [mu1,mx1]
    intro n7 b7 f7
    obtain ⟨K4,g4,o6⟩:=(o4.new f7 b7 (s:=.arr 77 [.int .i64 0,.int .i64 0,.nils,.nils])).putAll 0 (b:=n7) rfl (n:=4) (ds:=[encN t,encN 0,mu,mx]) rfl rfl (by simp [mu1,mx1]) (rt:=none) rfl
    have o6':=(Own.start (base:=base) (H:=K3) |>.new f7 b7 (s:=.arr 77 [.int .i64 0,.int .i64 0,.nils,.nils])).putAll 0 (b:=n7) rfl (n:=4) (ds:=[encN t,encN 0,mu,mx]) rfl rfl (by simp [mu1,mx1]) (rt:=none) rfl
    obtain ⟨K4',g4',o7⟩:=o6'
    have ek : K4' = K4:=by rw [g4] at g4'; exact (Option.some.inj g4').symm
    subst ek
    have r7:=rd_all (o7.at 0 (b:=n7) rfl) (n:=4) (rt:=none) rfl rfl
    simp [make_of f7 b7,g4,r7]
    refine (i_tidied (base:=base) t 0 (by omega) B _ K4' (hm.keeps o7.keeps) hBok hBok.pos (by omega)).step fun r K5 k5 hr => ?_
    obtain ⟨m,K8,rfl,g8,r8,kk,hrel⟩:=rel_end (base:=base) (o4.call (o7.keeps)) (i:=0) (n2:=n4) rfl rfl k5 hr
    simp [g8,r8]
    rw [hR,if_neg hbig]
    exact ⟨kk,hrel⟩
structure EndS (A : Aut) (t tape : Nat) (ks ls : List Nat) : Prop where
  nodup : ls.Nodup
  lt : ∀ q∈ls,q < A.acc.length
  sub : ∀ q∈ks,q∈ls
  back : ∀ q∈ls,endQ A t tape q = true→∃ k∈ks,endQ A t tape k = true
theorem EndS.len {A : Aut} {t tape : Nat} {ks ls : List Nat} (h : EndS A t tape ks ls) : ls.length≤A.acc.length:=by
  have:=nodup_le h.nodup (ys:=List.range A.acc.length) fun q hq => List.mem_range.2 (h.lt q hq)
  simpa using this
theorem EndS.push {A : Aut} {t tape : Nat} {ks ls : List Nat} (h : EndS A t tape ks ls) {p d : Nat} (hp : p∈ls) (hd : d < 2) (hlt : A.to p (withC t tape (wd t) d) < A.acc.length) (hn : A.to p (withC t tape (wd t) d) ∉ ls) : EndS A t tape ks (ls++[A.to p (withC t tape (wd t) d)]):=by
  refine ⟨?_,fun q hq => ?_,fun q hq => List.mem_append_left _ (h.sub q hq),fun q hq he => ?_⟩
  · rw [List.nodup_append]
    refine ⟨h.nodup,by simp,fun a ha b hb => ?_⟩
    simp at hb
    subst hb
    rintro rfl
    exact hn ha
  · rcases List.mem_append.1 hq with hq | hq
    · exact h.lt q hq
    · simp at hq
      subst hq
      exact hlt
  · rcases List.mem_append.1 hq with hq | hq
    · exact h.back q hq he
    · simp at hq
      subst hq
      exact h.back p hp (endQ_step hd he)
def rangeU (lo : Int) (n : Nat) : List Int:=oddI::(List.range n).map fun (i : Nat) => lo + (i : Int)
theorem mem_rangeU {lo : Int} {n : Nat} {s : Int} : s∈rangeU lo n↔s = oddI∨(lo≤s∧s < lo + n):=by
  unfold rangeU
  rw [List.mem_cons,List.mem_map]
  constructor
  · rintro (h | ⟨i,hi,rfl⟩)
    · exact .inl h
    · have:=List.mem_range.1 hi
      exact .inr ⟨by omega,by omega⟩
  · rintro (h | ⟨h1,h2⟩)
    · exact .inl h
    · exact .inr ⟨(s - lo).toNat,List.mem_range.2 (by omega),by omega⟩
theorem rangeU_len (lo : Int) (n : Nat) : (rangeU lo n).length = n + 1:=by simp [rangeU]
theorem range_closed {w : Nat} {kind c0 lo : Int} {n : Nat} {sums : Nat→Int} (h0 : lo≤c0∧c0 < lo + n) (hs : ∀ c,c < w→∀ s,lo≤s→s < lo + n→lo≤(s - sums c) / 2∧(s - sums c) / 2 < lo + n) : Closed w (nxL kind sums) c0 (rangeU lo n):=by
  refine ⟨mem_rangeU.2 (.inr h0),fun s hsU c hc => ?_⟩
  unfold nxL
  split
  · exact mem_rangeU.2 (.inl rfl)
  · next hne =>
    split
    · exact mem_rangeU.2 (.inl rfl)
    · rcases mem_rangeU.1 hsU with h | ⟨h1,h2⟩
      · exact absurd h hne
      · exact mem_rangeU.2 (.inr (hs c hc s h1 h2))
theorem rest_terms {m : Int} (hm : 1≤m∧m≤20) : Terms [1,-m]:=⟨by simp,fun x hx => by
  simp at hx
  rcases hx with rfl | rfl <;> omega⟩
theorem rest_closed {m rest : Int} (hm : 1≤m∧m≤20) (hr : 0≤rest∧rest≤m - 1) : Closed (wd 2) (nxL 1 (sumsF [1,-m])) rest (rangeU (-1) 22):=range_closed (by omega) fun c _ s h1 h2 => by
  have e : -m≤sumsF [1,-m] c∧sumsF [1,-m] c≤1:=by
    show -m≤sumN [1,-m] c 2∧sumN [1,-m] c 2≤1
    simp only [sumN]
    split <;> split <;> simp <;> omega
  omega
theorem rangeU_big {lo : Int} {n : Nat} (h : -1000000≤lo∧lo + n≤1000000) : ∀ s∈rangeU lo n,-1100000000000≤s∧s≤1100000000000:=fun s hs => by
  rcases mem_rangeU.1 hs with rfl | h
  · exact ⟨by unfold oddI; omega,by unfold oddI; omega⟩
  · omega
noncomputable def thenN (f : Aut→Option Aut × Nat) (r : Option Aut × Nat) : Option Aut × Nat:=match r with
  | (none,c) => (none,c)
  | (some A,_) => f A
noncomputable def restN (l : Nat) (m rest : Int) : Option Aut × Nat:=if inB m 1 20 = true∧inB rest 0 (m - 1) = true then thenN (fun A => someN l 1 1 (TA 2 (A.lang 0))) (linN 1 rest [1,-m] (rangeU (-1) 22)) else (none,2)
theorem thenN_good {t : Nat} {f : Aut→Option Aut × Nat} {t' : Nat} {r : Option Aut × Nat} (h : GoodC t' r) (hf : ∀ A,A.Ok (wd t')→A.acc.length≤150→GoodC t (f A)) : GoodC t (thenN f r):=by
  obtain ⟨a,c⟩:=r
  cases a with
  | none => exact h
  | some A => exact hf A h.2.1 h.2.2
theorem restN_good (l : Nat) (m rest : Int) : GoodC 1 (restN l m rest):=by
  unfold restN
  split
  · next h =>
    have h1 : 1≤m∧m≤20:=by simpa [inB] using h.1
    have h2 : 0≤rest∧rest≤m - 1:=by simpa [inB] using h.2
    exact thenN_good (t':=2) (linN_good (terms:=[1,-m]) (by simp) (rest_closed h1 h2)) fun A hA hl => someN_good (s:=0) (by decide)
  · exact .none _ _ (by omega)
theorem i_RestSet (l : Nat) (hl : l = 1000) (m rest : Int) (H : BH) : FnDoes (gam base) 26 [encI m,encI rest] H fun v K => RelR base H 1 (restN l m rest) v K:=by
  obtain ⟨R,hR⟩ : ∃ R : BV→BH→Prop,R = fun v K => RelR base H 1 (restN l m rest) v K:=⟨_,rfl⟩
  rw [← hR]
  refine FnDoes.of (fn:=ir26) rfl ?_
  simp [ir26]
  intro n4 b4 f4
  have o1:=Own.start (base:=base) (H:=H) |>.new f4 b4 (s:=.arr 25 [.int .i64 0,.int .i64 0,.nils,.nils])
  obtain ⟨H1,hH1⟩ : ∃ H1,H1 = H.set n4 (.arr 25 [.int .i64 0,.int .i64 0,.nils,.nils]):=⟨_,rfl⟩
  simp [make_of f4 b4]
  rw [← hH1] at o1 ⊢
  refine callP (i_within m 1 20 H1) ?_
  obtain ⟨mz,K7,e7,g7,r7,kk,hrel⟩:=rel_end (base:=base) (t:=1) (r:=(none,2)) o1 (i:=0) (n2:=n4) rfl rfl (BH.Keeps.refl _) rfl
  cases e7
  have g7' : H1.wr base none 4 (.ptr n4 0) (.agg [.int .i64 0,.int .i64 0,.nils,.nils]) = some K7:=g7
  by_cases hm : inB m 1 20 = true
  · have hm' : 1≤m∧m≤20:=by simpa [inB] using hm
    have wm : IntKind.i64.wrap (m - 1) = m - 1:=w64 (by omega) (by omega)
    have wn : IntKind.i64.wrap (-m) = -m:=w64 (by omega) (by omega)
    rw [hm]
    simp [wm]
    refine callP (i_within rest 0 (m - 1) H1) ?_
    by_cases hr : inB rest 0 (m - 1) = true
    · have hr' : 0≤rest∧rest≤m - 1:=by simpa [inB] using hr
      rw [hr]
      simp [wn]
      intro n22 b22 f22
      have o2:=(Own.start (base:=base) (H:=H1)).new f22 b22 (s:=.arr 2 [.int .i64 1,.int .i64 (-m)])
      have hv : Rd (H1.set n22 (.arr 2 [.int .i64 1,.int .i64 (-m)])) 2 (.sl n22 0 2) (([1,-m] : List Int).map encI):=o2.rd 0 rfl rfl
      simp [make_of f22 b22]
      have hlin:=i_linear (base:=base) 1 [1,-m] (rest_terms hm') (by simp) rest (rangeU (-1) 22) (rest_closed hm' hr') (by simp [rangeU_len]) (rangeU_big (by decide)) (.sl n22 0 2) _ hv
      have hgood:=linN_good (kind:=1) (terms:=[1,-m]) (by simp) (rest_closed hm' hr')
      have hres : restN l m rest = thenN (fun A => someN l 1 1 (TA 2 (A.lang 0))) (linN 1 rest [1,-m] (rangeU (-1) 22)):=if_pos ⟨hm,hr⟩
      refine hlin.step fun r K1 k1 hr1 => ?_
      have hr1 : RelR base (H1.set n22 (.arr 2 [.int .i64 1,.int .i64 (-m)])) 2 (linN 1 rest [1,-m] (rangeU (-1) 22)) r K1:=hr1
      have hgood : GoodC 2 (linN 1 rest [1,-m] (rangeU (-1) 22)):=hgood
      obtain ⟨G,hG⟩ : ∃ G,G = linN 1 rest [1,-m] (rangeU (-1) 22):=⟨_,rfl⟩
      rw [← hG] at hr1 hgood hres
      obtain ⟨mm,rfl,hmm⟩:=hr1.out
      obtain ⟨a1,a2,u,x,e2,p1,p2,p3,p4⟩:=hmm.ones
      subst e2
      simp [p1,p2,p3,p4]
      intro n6 b6 f6
      have k2 : H1.Keeps K1:=o2.keeps.trans k1
      obtain ⟨K3,g3,o3⟩:=((o1.call k2).new f6 b6 (s:=.arr 25 [.int .i64 0,.int .i64 0,.nils,.nils])).putAll 0 (b:=n6) rfl (n:=4) (ds:=[a1,a2,u,x]) rfl rfl (by simp [p1,p2,p3,p4]) (rt:=none) rfl
      have r3:=rd_all (o3.at 0 (b:=n6) rfl) (n:=4) (rt:=none) rfl rfl
      obtain ⟨K3',g3',o3'⟩:=((Own.start (base:=base) (H:=K1)).new f6 b6 (s:=.arr 25 [.int .i64 0,.int .i64 0,.nils,.nils])).putAll 0 (b:=n6) rfl (n:=4) (ds:=[a1,a2,u,x]) rfl rfl (by simp [p1,p2,p3,p4]) (rt:=none) rfl
      have ek : K3' = K3:=by rw [g3] at g3'; exact (Option.some.inj g3').symm
      subst ek
      obtain ⟨z,c⟩:=G
      cases z with
      | none =>
        have hc:=code_ne hgood.1
        have hc' : ¬ c = 0:=by have : 0 < c:=hgood.1; omega
        obtain ⟨m8,K8,e8,g8,r8,kk8,hrel8⟩:=rel_end (base:=base) (t:=1) (r:=(none,c)) (o3.tail) (i:=0) (n2:=n4) rfl rfl (BH.Keeps.refl _) rfl
        cases e8
        have g8' : K3'.wr base none 4 (.ptr n4 0) (.agg [.int .i64 0,.int .i64 0,.nils,.nils]) = some K8:=g8
        simp [make_of f6 b6,g3,hc,hc',g8',r8]
        rw [hR,hres]
        exact ⟨kk8,hrel8⟩
      | some A =>
        have ec : c = 0:=hgood.1
        subst ec
        simp [make_of f6 b6,g3,r3]
        have hso:=i_SomeOn (base:=base) l hl 1 0 1 (by decide) (by decide) (by decide) A (.agg [a1,a2,u,x]) K3' (RdRel.keeps (show RdRel K1 2 0 A (.agg [a1,a2,u,x]) from hmm) o3'.keeps) hgood.2.1 hgood.2.1.pos hgood.2.2
        refine hso.step fun r K9 k9 hr9 => ?_
        obtain ⟨m8,K8,rfl,g8,r8,kk8,hrel8⟩:=rel_end (base:=base) (o3.tail) (i:=0) (n2:=n4) rfl rfl k9 hr9
        simp [g8,r8]
        rw [hR,hres]
        exact ⟨kk8,hrel8⟩
    · have hr : inB rest 0 (m - 1) = false:=by simpa using hr
      rw [hr]
      simp [g7',r7]
      rw [hR]
      have hres : restN l m rest = (none,2):=if_neg (by rw [hr]; simp)
      rw [hres]
      exact ⟨kk,hrel⟩
  · have hm : inB m 1 20 = false:=by simpa using hm
    rw [hm]
    simp [g7',r7]
    rw [hR]
    have hres : restN l m rest = (none,2):=if_neg (by rw [hm]; simp)
    rw [hres]
    exact ⟨kk,hrel⟩
theorem Has.put {e : Env} {t : Nat} {v : BV} {kp : List (Nat × BV)} (h : Has e kp) (ht : kp.all (fun p => !(p.1 == t)) = true) : Has (e.put t v) kp:=Has.frame (W:=[t]) (fun s hs => by
  have : s≠t:=fun he => hs (by simp [he])
  simp [Env.put,this]) (by
  rw [List.all_eq_true] at ht ⊢
  intro p hp
  have:=ht p hp
  simp only [List.contains_cons,List.contains_nil,Bool.or_false]
  exact this) h
theorem OwnRel.rows2 {H K : BH} {t s : Nat} {A : Aut} {m : BV} (h : OwnRel base H K t s A m) : ∃ Y,Own base H K Y∧∀ {H' K' : BH} {Z : List Sl},Own base H' K' (Z++Y)→OwnRel base H' K' t s A m:=by
  obtain ⟨u,w,bo,wo,vs,fr,e,o,hu,hw,hr⟩:=h
  exact ⟨_,o,fun {H' K' Z} o' => ⟨u,w,bo,wo,vs,fr,e,o'.sub (List.sublist_append_right _ _),hu,hw,hr⟩⟩
theorem OwnRel.cells {H K : BH} {t s : Nat} {A : Aut} {m : BV} (h : OwnRel base H K t s A m) : ∃ u x : BV,m = .agg [encN t,encN s,u,x]∧u.one = true∧x.one = true:=by
  obtain ⟨u,w,bo,wo,vs,fr,e,o,hu,hw,hr⟩:=h
  exact ⟨u,w,e,hu.one,hw.one⟩
theorem addN3_some : ∃ B,addN3 = (some B,0):=by
  have hU:=add_closed
  obtain ⟨hX,hXl,-⟩:=linX_ok (terms:=[1,1,-1]) hU
  obtain ⟨X,hXX⟩ : ∃ X,X = linX 1 0 [1,1,-1] [0,oddI,-1]:=⟨_,rfl⟩
  rw [← hXX] at hX hXl
  have hX : X.Ok (wd 3):=hX
  have hXl : X.acc.length≤3:=hXl
  obtain ⟨hD,hDl⟩:=LD_small (t:=3) (by decide) (S:=List.range 3) (fun k hk => List.mem_range.1 hk)
  obtain ⟨D,hDD⟩ : ∃ D,D = TA 3 (LD (List.range 3)):=⟨_,rfl⟩
  have hT:=TA_len2 (t:=3) hX hX.pos
  have hTS:=(TA_spec (by decide) hX hX.pos).1
  have e1 : told (TA 3 (X.lang 0)) = (some (TA 3 (X.lang 0)),0):=by
    unfold told
    rw [if_neg (by omega)]
  have e2 : addN3 = joinN 3 (fun a b => a && b) ((TA 3 (X.lang 0)).lang 0) ((TA 3 (LD (List.range 3))).lang 0):=by
    unfold addN3 linN
    have : told (TA ([1,1,-1] : List Int).length ((linX 1 0 [1,1,-1] [0,oddI,-1]).lang 0)) = (some (TA 3 (X.lang 0)),0):=by rw [← hXX]; exact e1
    rw [this]
    rfl
  have hDD2 : TA 3 (D.lang 0) = D:=by
    rw [hDD]
    exact TA_congr fun cs hc hr => by
      rw [hD.lang hc]
      simp [rl,hr]
  rw [← hDD] at e2 hD hDl
  have hp:=prodA_ok (op:=fun a b => a && b) hX hD.ok
  have hpl : (prodA (wd 3) X D (fun a b => a && b)).acc.length = X.acc.length * D.acc.length:=prodA_len
  have hle : X.acc.length * D.acc.length≤3 * 28:=Nat.mul_le_mul hXl hDl
  have hs:=(TA_small (t:=3) hp hp.pos (L:=fun cs => X.lang 0 cs && D.lang 0 cs) fun cs hc => by
    have:=prodA_lang (op:=fun a b => a && b) hX hD.ok cs 0 0 hX.pos hD.ok.pos hc
    rw [Nat.zero_mul,Nat.zero_add] at this
    rw [this]
    show _ = (rightF 3 0 cs && (X.lang 0 cs && D.lang 0 cs))
    rw [show D.lang 0 cs = (rightF 3 0 cs && LD (List.range 3) cs) from hD.lang hc]
    cases rightF 3 0 cs <;> simp).2
  rw [e2,joinN_TA (by decide) hX hX.pos]
  unfold joinN
  have h7 : (TA 3 (X.lang 0)).acc.length * (TA 3 (D.lang 0)).acc.length≤25 * 28:=Nat.mul_le_mul (by omega) (by rw [hDD2]; exact hDl)
  rw [if_neg (by omega)]
  exact ⟨TA 3 (fun cs => X.lang 0 cs && D.lang 0 cs),if_neg (show ¬ 150 < (TA 3 (fun cs => X.lang 0 cs && D.lang 0 cs)).acc.length from by rw [hpl] at hs; omega)⟩
theorem lay {K : BH} {n : Nat} {a b c d : BV} (f : K.row n = .fresh) (hb : base≤n) (p : ([a,b,c,d] : List BV).all BV.one = true) : ∃ K',(K.set n (.arr 25 [.int .i64 0,.int .i64 0,.nils,.nils])).wr base none 4 (.ptr n 0) (.agg [a,b,c,d]) = some K' ∧
    K.Keeps K'∧K'.rd none (some 4) (.ptr n 0) = some (.agg [a,b,c,d])∧K'.row n = .arr 25 [a,b,c,d]∧∀ {H : BH} {L : List Sl},Own base H K L→Own base H K' ((some n,.arr 25 [a,b,c,d])::L):=by
  obtain ⟨K',g,o⟩:=((Own.start (base:=base) (H:=K)).new f hb (s:=.arr 25 [.int .i64 0,.int .i64 0,.nils,.nils])).putAll 0 (b:=n) rfl (n:=4) (ds:=[a,b,c,d]) rfl rfl p (rt:=none) rfl
  refine ⟨K',g,o.keeps,rd_all (o.at 0 (b:=n) rfl) rfl rfl,o.at 0 (b:=n) rfl,fun {H L} oh => ?_⟩
  obtain ⟨K2,g2,o2⟩:=(oh.new f hb (s:=.arr 25 [.int .i64 0,.int .i64 0,.nils,.nils])).putAll 0 (b:=n) rfl (n:=4) (ds:=[a,b,c,d]) rfl rfl p (rt:=none) rfl
  have ek : K2 = K':=by rw [g] at g2; exact (Option.some.inj g2).symm
  subst ek
  exact o2
def clsW (v : Int) : Nat:=if v = oddI then 0 else if v = 0 then 1 else if 0 < v then 2 else 3
def kd2 (a fx fy : Nat) : Nat:=if a = 0 then 0 else if a = 1 then (if fx = 1∨fy = 1 then (if fx = 2∨fy = 2 then 0 else 3) else if fx = 2∨fy = 2 then 1 else 2)
  else if a = 2 then (if fx = 2 then 0 else if fy = 2 then 6 else if fy = 1 then 5 else 4) else (if fy = 2 then 0 else if fx = 2 then 6 else if fx = 1 then 5 else 4)
def kdW (a : Nat) : Ks→Nat
  | none => 0
  | some q => kd2 a (q.getD 0 0) (q.getD 1 0)
def hW (v : Int) (k : Ks) : Nat × Int:=(kdW (clsW v) k,if kdW (clsW v) k < 4 then 0 else v)
def KsOk (k : Ks) : Prop:=k = none∨∃ fx fy,fx < 3∧fy < 3∧k = some [fx,fy]
theorem stepD_lt (b : Bool) (st d : Nat) : (stepT b st d).getD 0 < 3:=by
  cases h : stepT b st d with
  | none => simp
  | some x => simpa using stepT_lt h
theorem ks_ok (k : Ks) (c : Nat) : KsOk (ksNx 2 [0,1] k c):=by
  cases k with
  | none => exact .inl rfl
  | some q =>
    simp only [ksNx]
    split
    · exact .inr ⟨_,_,stepD_lt _ _ _,stepD_lt _ _ _,rfl⟩
    · exact .inl rfl
theorem linN_some {kind c0 : Int} {terms U : List Int} {W : Aut} {c : Nat} (h : linN kind c0 terms U = (some W,c)) : W = TA terms.length (fun cs => (TA terms.length ((linX kind c0 terms U).lang 0)).lang 0 cs && (TA terms.length (LD (List.range terms.length))).lang 0 cs):=by
  unfold linN at h
  obtain ⟨G,hG⟩ : ∃ G,G = told (TA terms.length ((linX kind c0 terms U).lang 0)):=⟨_,rfl⟩
  rw [← hG] at h
  obtain ⟨a,d⟩:=G
  cases a with
  | none => cases h
  | some X =>
    have hX : X = TA terms.length ((linX kind c0 terms U).lang 0):=by
      unfold told at hG
      split at hG
      · cases hG
      · cases hG; rfl
    subst hX
    have h : joinN terms.length (fun a b => a && b) ((TA terms.length ((linX kind c0 terms U).lang 0)).lang 0) ((TA terms.length (LD (List.range terms.length))).lang 0) = (some W,c):=h
    unfold joinN at h
    split at h
    · cases h
    · unfold told at h
      split at h
      · cases h
      · cases h; rfl
theorem rtape_pre : ∀ {u ds : List Nat},(∀ d∈u,d≠2)→rtape false (u++ds) = rtape false ds
  | [],_,_ => rfl
  | d::u,ds,h => by
    have hd:=h d List.mem_cons_self
    have ih:=rtape_pre (u:=u) (ds:=ds) fun x hx => h x (List.mem_cons_of_mem _ hx)
    simp only [List.cons_append,rtape]
    simpa [hd] using ih
theorem rtape_twos : ∀ {b : Bool} {ds : List Nat},(∀ d∈ds,d = 2)→rtape b ds = true
  | b,[],_ => rfl
  | b,d::ds,h => by
    have hd:=h d List.mem_cons_self
    have ih:=rtape_twos (b:=true) (ds:=ds) fun x hx => h x (List.mem_cons_of_mem _ hx)
    simp only [rtape]
    simp [hd,ih]
variable {t at_ : Nat} {W : Aut}
end Go.Proofs.YtbnmhbmhafbmiaaGreatDoor.W
end

section
namespace Go.Proofs.YtbnmhbmhafbmiaaGreatDoor.W
set_option linter.unusedVariables false
set_option linter.unusedSimpArgs false
open Go.B
variable {base : Nat}
attribute [local simp] wpC_skip wpC_region wpC_seq wpC_true wpC_false wpC_block wpC_exit wpC_ret wpO_nil wpO_n wpO_tt wpO_ff wpO_tf wpO_ft wpO_u wpS_mov wpS_pick wpS_build wpS_load wpS_store wpS_nilck wpS_bin wpS_beq wpS_isnil wpS_eqs wpS_not wpS_neg wpS_conv wpS_lea wpS_fld wpS_idx wpS_idxs wpS_slice wpS_sslice wpS_mkfn wpS_mset wpS_look wpS_ext wpS_len wpS_new wpS_box wpS_mk wpS_mkmap wpS_mksl wpS_app wpS_fn wpS_call after_some pthen_n pthen_x pthen_r pin BExit.outOf puto_some puto_none put_eq put_ne Opd.ev argEnv op1_mov op1_pick op1_new op1_box op1_load op1_nilck op1_bin op1_beq op1_not op1_neg op1_conv op1_lea op1_fld op1_len0 op1_len1 op1_idx op1_ext op1_build op1_mk op1_stw op1_mksl op1_eqs pureBin isShift resOf resVals val_tmp val_cell oneOf one_int cells_int one_bool cells_bool one_str cells_str one_nilp cells_nilp one_ptr cells_ptr one_nils cells_nils one_sl cells_sl one_sle cells_sle one_nilm cells_nilm one_mp cells_mp one_nilf cells_nilf one_fn cells_fn one_nili cells_nili cells_agg isSl_sl slen_sl sat_sl make_of asm rtOk wpS_b2s op1_b2s wpS_imax op1_imax wpS_imin op1_imin wpS_i2s op1_i2s op1_isnil Option.map_some gam_base op1_app op1_idxs wpS_idxa op1_idxa op1_sslice bound_none bound_some nat_of op1_mkmap op1_mset op1_look op1_len2 op1_mkfn Go.B.fillB Has


def abAt (w : ByteArray) (i : Nat) : Bool:=match w[i]? with | some b => b.toNat == 97 || b.toNat == 98 | none => false
def pre (w : ByteArray) (n : Nat) : Bool:=(List.range n).all (abAt w)
theorem pre_at {w : ByteArray} {n i : Nat} (h : pre w n = true) (hi : i < n) : abAt w i = true:=by
  simp only [pre,List.all_eq_true] at h
  exact h i (by simpa using hi)
def tabAt : Nat→List BV
  | 0 => List.replicate 256 (.bool false)
  | 1 => (List.replicate 256 (.bool false)).set 97 (.bool true)
  | _ => ((List.replicate 256 (.bool false)).set 97 (.bool true)).set 98 (.bool true)
def tab : List BV:=tabAt 2
theorem tabAt_len (i : Nat) : (tabAt i).length = 256:=by
  match i with
  | 0 => exact List.length_replicate
  | 1 => exact (List.length_set ..).trans List.length_replicate
  | _ + 2 => exact (List.length_set ..).trans ((List.length_set ..).trans List.length_replicate)
theorem tab_len : tab.length = 256:=tabAt_len 2
theorem tab_one : tab.all BV.one = true:=by decide +kernel
theorem tab_get {b : Nat} (h : b < 256) : tab[b]? = some (.bool (b == 97 || b == 98)):=by
  simp only [tab,tabAt,List.getElem?_set,List.getElem?_replicate,List.length_set,List.length_replicate]
  by_cases h1 : b = 98
  · subst h1; rfl
  · by_cases h2 : b = 97
    · subst h2; rfl
    · have h1' : ¬ 98 = b:=fun e => h1 e.symm
      have h2' : ¬ 97 = b:=fun e => h2 e.symm
      rw [if_neg h1',if_neg h2',if_pos h]
      simp [h1,h2]
theorem rd_tab {H : BH} {p b : Nat} (hr : H.row p = .arr 143 tab) (h : b < 256) : H.rd none none (.ptr p b) = some (.bool (b == 97 || b == 98)):=by
  have hd : (tab.drop b).take 1 = [.bool (b == 97 || b == 98)]:=by
    rw [List.take_one,List.head?_drop,tab_get h]; rfl
  simp only [BH.rd,hr,rtOk,Option.getD_none,tab_len,hd,asm,List.head?_cons]
  rw [if_pos ⟨trivial,by omega⟩]
theorem rd_tabs {H : BH} {p : Nat} {rt : Option Nat} (hr : H.row p = .arr 143 tab) (h : rtOk rt 143 = true) : H.rd rt (some 256) (.ptr p 0) = some (.agg tab):=by
  have hd : (tab.drop 0).take 256 = tab:=List.take_of_length_le (by rw [List.drop_zero,tab_len]; omega)
  simp only [BH.rd,hr,h,Option.getD_some,tab_len,hd,asm]
  rw [if_pos ⟨trivial,by omega⟩]

theorem x_contains (p : Nat) (b : UInt8) (H : BH) (hr : H.row p = .arr 143 tab) : Runs (gam base) 206 [.ptr p 0,.int .u8 b.toNat] H (.bool (b.toNat == 97 || b.toNat == 98)) H:=by
  refine runs_of (fn:=ir206) rfl ?_
  have hb : b.toNat < 256:=b.toNat_lt
  have hb' : (b.toNat : Int) < 256:=by omega
  simp [ir206,hb,hb',rd_tab hr hb]

set_option maxRecDepth 100000 in
theorem x_mkset (H : BH) : ∃ H',Runs (gam base) 159 [.str ⟨#[97,98]⟩] H (.tup [.agg tab,.bool true]) H'∧H.Keeps H':=by
  obtain ⟨v,H',h1,h2,h3⟩ : ∃ v H',Runs (gam base) 159 [.str ⟨#[97,98]⟩] H v H'∧v = .tup [.agg tab,.bool true]∧H.Keeps H':=by
    refine call_of_wp (fn:=ir159) (R:=fun v H' => v = .tup [.agg tab,.bool true]∧H.Keeps H') rfl ?_
    have sz : (⟨#[97,98]⟩ : ByteArray).size = 2:=rfl
    obtain ⟨x0,g0,u0⟩ : ∃ x : UInt8,(⟨#[97,98]⟩ : ByteArray)[0]? = some x∧x.toNat = 97:=⟨97,rfl,rfl⟩
    obtain ⟨x1,g1,u1⟩ : ∃ x : UInt8,(⟨#[97,98]⟩ : ByteArray)[1]? = some x∧x.toNat = 98:=⟨98,rfl,rfl⟩
    generalize (⟨#[97,98]⟩ : ByteArray) = w at sz g0 g1
    have u0 : ∀ h,(w[0]'h).toNat = 97:=fun h => by rw [getElem?_pos w 0 h] at g0; cases g0; exact u0
    have u1 : ∀ h,(w[1]'h).toNat = 98:=fun h => by rw [getElem?_pos w 1 h] at g1; cases g1; exact u1
    simp only [ir159,wpC_seq,wpC_region,wpO_n,wpS_new]
    intro nb hb hf
    have hb : base≤nb:=hb
    simp only [op1_new,gam_base,make_of hf hb,Option.map_some,after_some]
    have key : ∀ i,H.Keeps (H.set nb (.arr 143 (tabAt i))):=fun i => BH.keeps_set _ hf
    simp
    refine wpC_count 2 (fun i e K => e 0 = .str w∧e 2 = .ptr nb 0∧e 4 = .int .i64 i∧K = H.set nb (.arr 143 (tabAt i))) (i0:=0) ?_ (Nat.zero_le _) ?_
    · exact ⟨rfl,by simp,rfl,rfl⟩
    · rintro i e K hi ⟨e0,e2,e4,rfl⟩
      have hcase : i = 0∨i = 1∨i = 2:=by omega
      rcases hcase with rfl | rfl | rfl
      · have hwr : (H.set nb (.arr 143 (tabAt 0))).wr base none 1 (.ptr nb 97) (.bool true) = some (H.set nb (.arr 143 (tabAt 1))):=by
          rw [wr_row (rt:=none) (n:=1) (v:=.bool true) (BH.row_set_eq _ _ _) rfl hb rfl (by rw [tabAt_len]; omega) rfl]
          refine congrArg some (BH.ext fun c => ?_)
          simp only [BH.row_set]; split <;> rfl
        have w1 : IntKind.i64.wrap 1 = 1:=rfl
        simp [e0,e2,e4,sz,u0,hwr,w1]
      · have hwr : (H.set nb (.arr 143 (tabAt 1))).wr base none 1 (.ptr nb 98) (.bool true) = some (H.set nb (.arr 143 (tabAt 2))):=by
          rw [wr_row (rt:=none) (n:=1) (v:=.bool true) (BH.row_set_eq _ _ _) rfl hb rfl (by rw [tabAt_len]; omega) rfl]
          refine congrArg some (BH.ext fun c => ?_)
          simp only [BH.row_set]; split <;> rfl
        have w1 : IntKind.i64.wrap 2 = 2:=rfl
        simp [e0,e2,e4,sz,u1,hwr,w1]
      · have hr : (H.set nb (.arr 143 (tabAt 2))).row nb = .arr 143 tab:=BH.row_set_eq _ _ _
        have hwr : (H.set nb (.arr 143 (tabAt 2))).wr base none 256 (.ptr nb 0) (.agg tab) = some (H.set nb (.arr 143 (tabAt 2))):=by
          rw [wr_row (rt:=none) (n:=256) (v:=.agg tab) hr rfl hb tab_len (by rw [tab_len]; omega) tab_one]
          refine congrArg some (BH.ext fun c => ?_)
          simp only [BH.row_set]; split <;> rfl
        have hrd:=rd_tabs (rt:=none) hr rfl
        simp [e0,e2,e4,sz,hrd,hwr]
        exact key 2
  subst h2
  exact ⟨H',h1,h3⟩

theorem ext_full (w : ByteArray) : w.extract 0 w.size = w:=by
  have hd : (w.extract 0 w.size).data = w.data:=by
    rw [ByteArray.data_extract]
    exact Array.extract_size
  cases w
  exact congrArg _ hd
theorem ext_get {w : ByteArray} {a b i : Nat} (hb : b≤w.size) (hi : a + i < b) : (w.extract a b)[i]? = w[a + i]?:=by
  have h1 : i < (w.extract a b).size:=by rw [ByteArray.size_extract]; omega
  have h2 : a + i < w.size:=by omega
  rw [getElem?_pos (w.extract a b) i h1,getElem?_pos w (a + i) h2,ByteArray.getElem_extract]
theorem ext_ext {w : ByteArray} {a b i j : Nat} (hij : a + j≤b) : (w.extract a b).extract i j = w.extract (a + i) (a + j):=by
  rw [ByteArray.extract_extract,Nat.min_eq_left hij]
theorem ext_size {w : ByteArray} {a b : Nat} (hb : b≤w.size) : (w.extract a b).size = b - a:=by rw [ByteArray.size_extract]; omega

theorem x_trimR (w : ByteArray) (p : Nat) (H : BH) (hs : w.size≤1048576) (hr : H.row p = .arr 143 tab) :
    ∃ m,Runs (gam base) 161 [.str w,.ptr p 0] H (.str (w.extract 0 m)) H∧m≤w.size∧(∀ j,m≤j→j < w.size→abAt w j = true)∧(m = 0∨abAt w (m - 1) = false):=by
  obtain ⟨v,H',h1,rfl,m,rfl,h2⟩ : ∃ v H',Runs (gam base) 161 [.str w,.ptr p 0] H v H'∧H' = H∧∃ m,v = .str (w.extract 0 m)∧m≤w.size∧(∀ j,m≤j→j < w.size→abAt w j = true)∧(m = 0∨abAt w (m - 1) = false):=by
    refine call_of_wp (fn:=ir161) (R:=fun v H' => H' = H∧∃ m,v = .str (w.extract 0 m)∧m≤w.size∧(∀ j,m≤j→j < w.size→abAt w j = true)∧(m = 0∨abAt w (m - 1) = false)) rfl ?_
    simp [ir161]
    refine wpC_count w.size (fun i e K => e 0 = .str (w.extract 0 (w.size - i))∧e 1 = .ptr p 0∧K = H∧∀ j,w.size - i≤j→j < w.size→abAt w j = true) (i0:=0) ?_ (Nat.zero_le _) ?_
    · refine ⟨?_,rfl,rfl,fun j h1 h2 => by omega⟩
      simp [ext_full]
    · rintro i e K hi ⟨e0,e1,rfl,hab⟩
      obtain ⟨m,hm⟩ : ∃ m,m = w.size - i:=⟨_,rfl⟩
      rw [← hm] at e0 hab
      have hsz : (w.extract 0 m).size = m:=by rw [ext_size (by omega)]; omega
      by_cases h0 : 0 < m
      · have h0' : (0 : Int) < m:=by omega
        have hc : (w.extract 0 m)[m - 1]? = w[m - 1]?:=by rw [ext_get (by omega) (by omega)]; simp
        have hb : w[m - 1]? = some (w[m - 1]'(by omega)):=getElem?_pos w _ (by omega)
        have hat : abAt w (m - 1) = ((w[m - 1]'(by omega)).toNat == 97 || (w[m - 1]'(by omega)).toNat == 98):=by simp only [abAt,hb]
        rw [hb] at hc
        generalize (w[m - 1]'(by omega)) = b at hat hc
        have w1 : IntKind.i64.wrap ((m : Int) - 1) = ((m - 1 : Nat) : Int):=by rw [w64 (by omega) (by omega)]; omega
        have hex : (w.extract 0 m).extract 0 (m - 1) = w.extract 0 (m - 1):=by rw [ext_ext (by omega)]; simp
        obtain ⟨x,hx⟩ : ∃ x,w.extract 0 m = x:=⟨_,rfl⟩
        rw [hx] at e0 hsz hc hex
        simp [e0,e1,hsz,h0,h0',w1,hc]
        refine ⟨_,K,x_contains p b K hr,BH.KeepsTys.nil _ _,?_⟩
        cases q : (b.toNat == 97 || b.toNat == 98)
        · rw [q] at hat
          simp only [Bool.or_eq_false_iff] at q
          simp [e0,e1,q]
          exact ⟨m,hx.symm,by omega,hab,.inr hat⟩
        · rw [q] at hat
          have hle : m - 1≤x.size:=by omega
          simp [e0,e1,q,hsz,w1,hex]
          refine ⟨by omega,?_,fun j h1 h2 => ?_⟩
          · rw [show w.size - (i + 1) = m - 1 by omega]
          · by_cases hj : j = m - 1
            · rw [hj]; exact hat
            · exact hab j (by omega) h2
      · have h00 : m = 0:=by omega
        rw [h00] at hsz e0 hab
        simp [e0,e1,hsz]
        exact ⟨0,by simp,by omega,hab,.inl rfl⟩
  exact ⟨m,h1,h2⟩

theorem x_trimL (w : ByteArray) (p : Nat) (H : BH) (hs : w.size≤1048576) (hr : H.row p = .arr 143 tab) :
    ∃ m,Runs (gam base) 160 [.str w,.ptr p 0] H (.str (w.extract m w.size)) H∧m≤w.size∧(∀ j,j < m→abAt w j = true)∧(m = w.size∨abAt w m = false):=by
  obtain ⟨v,H',h1,rfl,m,rfl,h2⟩ : ∃ v H',Runs (gam base) 160 [.str w,.ptr p 0] H v H'∧H' = H∧∃ m,v = .str (w.extract m w.size)∧m≤w.size∧(∀ j,j < m→abAt w j = true)∧(m = w.size∨abAt w m = false):=by
    refine call_of_wp (fn:=ir160) (R:=fun v H' => H' = H∧∃ m,v = .str (w.extract m w.size)∧m≤w.size∧(∀ j,j < m→abAt w j = true)∧(m = w.size∨abAt w m = false)) rfl ?_
    simp [ir160]
    refine wpC_count w.size (fun i e K => e 0 = .str (w.extract i w.size)∧e 1 = .ptr p 0∧K = H∧∀ j,j < i→abAt w j = true) (i0:=0) ?_ (Nat.zero_le _) ?_
    · refine ⟨?_,rfl,rfl,fun j h1 => by omega⟩
      simp [ext_full]
    · rintro i e K hi ⟨e0,e1,rfl,hab⟩
      have hsz : (w.extract i w.size).size = w.size - i:=ext_size (by omega)
      by_cases h0 : i < w.size
      · have h0' : (0 : Int) < ((w.size - i : Nat) : Int):=by omega
        have hc : (w.extract i w.size)[0]? = w[i]?:=by rw [ext_get (by omega) (by omega)]; simp
        have hb : w[i]? = some w[i]:=getElem?_pos w _ (by omega)
        have hat : abAt w i = (w[i].toNat == 97 || w[i].toNat == 98):=by simp only [abAt,hb]
        rw [hb] at hc
        generalize w[i] = b at hat hc
        have hex : (w.extract i w.size).extract 1 (w.size - i) = w.extract (i + 1) w.size:=by rw [ext_ext (by omega),show i + (w.size - i) = w.size by omega]
        have hle : 1≤w.size - i:=by omega
        obtain ⟨x,hx⟩ : ∃ x,w.extract i w.size = x:=⟨_,rfl⟩
        rw [hx] at e0 hsz hc hex
        obtain ⟨m,hm⟩ : ∃ m,w.size - i = m:=⟨_,rfl⟩
        rw [hm] at hsz hex hle h0'
        have h0i : (0 : Int) < m:=by omega
        have hc' : ∀ h,(x[0]'h) = b:=fun h => by rw [getElem?_pos x 0 h] at hc; cases hc; rfl
        have h0n : 0 < m:=hle
        simp [e0,e1,hsz,h0n,hc']
        refine ⟨_,K,x_contains p b K hr,BH.KeepsTys.nil _ _,?_⟩
        cases q : (b.toNat == 97 || b.toNat == 98)
        · rw [q] at hat
          simp only [Bool.or_eq_false_iff] at q
          simp [e0,e1,q]
          exact ⟨i,hx.symm,by omega,hab,.inr hat⟩
        · rw [q] at hat
          simp [e0,e1,q,hsz,hex,hle,h0]
          refine fun j h1 => ?_
          by_cases hj : j = i
          · rw [hj]; exact hat
          · exact hab j (by omega)
      · have h00 : i = w.size:=by omega
        subst h00
        rw [Nat.sub_self] at hsz
        simp [e0,e1,hsz]
        exact ⟨w.size,by simp,by omega,hab,.inl rfl⟩
  exact ⟨m,h1,h2⟩


theorem listEmpty (w : ByteArray) : w.toList = []↔w.size = 0:=by
  rw [ByteArray.toList_eq]
  constructor
  · intro h
    have : w.data.toList.length = 0:=by rw [h]; rfl
    exact this
  · intro h
    exact List.eq_nil_of_length_eq_zero h
theorem abStr : (⟨#[97,98]⟩ : ByteArray).toList = [97,98]:=by rw [ByteArray.toList_eq]
theorem noStr : (⟨#[]⟩ : ByteArray).toList = []:=by rw [ByteArray.toList_eq]

theorem trim_all {w : ByteArray} {m k : Nat} (hm : m≤w.size) (h1 : ∀ j,m≤j→j < w.size→abAt w j = true) (h2 : m = 0∨abAt w (m - 1) = false)
    (hk : k≤(w.extract 0 m).size) (h3 : ∀ j,j < k→abAt (w.extract 0 m) j = true) (h4 : k = (w.extract 0 m).size∨abAt (w.extract 0 m) k = false) :
    (((w.extract 0 m).extract k (w.extract 0 m).size).toList == []) = pre w w.size:=by
  have hsz : (w.extract 0 m).size = m:=by rw [ext_size hm]; omega
  rw [hsz] at hk h4 ⊢
  have hat : ∀ j,j < m→abAt (w.extract 0 m) j = abAt w j:=fun j hj => by
    simp only [abAt]
    rw [ext_get hm (by omega),Nat.zero_add]
  have hs2 : ((w.extract 0 m).extract k m).size = m - k:=by rw [ext_size (by omega)]
  have hi : ((((w.extract 0 m).extract k m).toList == []) = true)↔m = k:=by
    rw [beq_iff_eq,listEmpty,hs2]; omega
  cases q : pre w w.size
  · rw [Bool.eq_false_iff]
    intro hh
    have hmk:=hi.1 hh
    have : pre w w.size = true:=by
      simp only [pre,List.all_eq_true]
      intro j hj
      have hj : j < w.size:=by simpa using hj
      by_cases hjm : j < m
      · rw [← hat j hjm]; exact h3 j (by omega)
      · exact h1 j (by omega) hj
    rw [q] at this
    cases this
  · rw [hi]
    rcases h2 with h2 | h2
    · omega
    · by_cases h0 : m = 0
      · omega
      · rw [pre_at q (by omega)] at h2; cases h2

set_option maxRecDepth 100000 in
theorem x_trim (w : ByteArray) (H : BH) (hs : w.size≤1048576) : ∃ r,Gives (gam base) 108 [.str w,.str ⟨#[97,98]⟩] H (.str r)∧(r.toList == []) = pre w w.size:=by
  have sz : (⟨#[97,98]⟩ : ByteArray).size = 2:=rfl
  by_cases hw : w.size = 0
  · refine ⟨w,gives_of (fn:=ir108) rfl ?_,?_⟩
    · have hl:=(listEmpty w).2 hw
      simp [ir108,hl,noStr]
      exact BH.Keeps.refl H
    · rw [(listEmpty w).2 hw,hw]; rfl
  · have hl : ¬ w.toList = []:=fun h => hw ((listEmpty w).1 h)
    obtain ⟨v,H',h1,r,rfl,h2,h3⟩ : ∃ v H',Runs (gam base) 108 [.str w,.str ⟨#[97,98]⟩] H v H'∧∃ r,v = .str r∧(r.toList == []) = pre w w.size∧H.Keeps H':=by
      refine call_of_wp (fn:=ir108) (R:=fun v H' => ∃ r,v = .str r∧(r.toList == []) = pre w w.size∧H.Keeps H') rfl ?_
      have hl' : (w.toList == []) = false:=by simpa using hl
      have hne : ((⟨#[97,98]⟩ : ByteArray).toList == []) = false:=by rw [abStr]; rfl
      simp [ir108,hl',noStr,hne,sz]
      obtain ⟨H1,r1,k1⟩:=x_mkset (base:=base) H
      refine ⟨_,H1,r1,BH.KeepsTys.nil _ _,?_⟩
      simp
      intro nb hb hf
      simp only [make_of hf hb,Option.map_some,after_some]
      have hrow : ∀ zs : List BV,zs.length = 256→(H1.set nb (.arr 143 zs)).wr base none 256 (.ptr nb 0) (.agg tab) = some (H1.set nb (.arr 143 tab)):=by
        intro zs hz
        rw [wr_row (rt:=none) (n:=256) (v:=.agg tab) (BH.row_set_eq _ _ _) rfl hb tab_len (by rw [hz]; omega) tab_one]
        refine congrArg some (BH.ext fun c => ?_)
        have hd : zs.take 0++(BV.agg tab).cells++zs.drop (0 + 256) = tab:=by
          rw [List.drop_eq_nil_of_le (by omega)]
          show []++tab++[] = tab
          rw [List.append_nil,List.nil_append]
        rw [hd]
        simp only [BH.row_set]; split <;> rfl
      have hr2 : (H1.set nb (.arr 143 tab)).row nb = .arr 143 tab:=BH.row_set_eq _ _ _
      obtain ⟨m,r2,hm,g1,g2⟩:=x_trimR (base:=base) w nb _ hs hr2
      have hsz : (w.extract 0 m).size = m:=by rw [ext_size hm]; omega
      obtain ⟨k,r3,hk,g3,g4⟩:=x_trimL (base:=base) (w.extract 0 m) nb _ (by omega) hr2
      simp [hrow]
      refine ⟨_,_,r2,BH.KeepsTys.nil _ _,?_⟩
      simp
      refine ⟨_,_,r3,BH.KeepsTys.nil _ _,?_⟩
      simp
      have ht:=trim_all hm g1 g2 hk g3 g4
      rw [hsz] at ht
      refine ⟨?_,k1.set (k1.fresh hf) _⟩
      rw [← ht,Nat.min_eq_left hm]
      generalize (((w.extract 0 m).extract k m).toList) = l
      cases l <;> rfl
    exact ⟨r,⟨H',h1,h3⟩,h2⟩

theorem i_wordB (w : ByteArray) (H : BH) (hs : w.size≤1048576) : Gives (gam base) 63 [.str w] H (.bool (pre w w.size && decide (w.size≤40))):=by
  refine gives_of (fn:=ir63) rfl ?_
  by_cases h : w.size≤40
  · have h' : (w.size : Int)≤40:=by omega
    obtain ⟨r,⟨H1,r1,k1⟩,hr⟩:=x_trim (base:=base) w H hs
    simp [ir63,h,h']
    refine ⟨_,H1,r1,BH.KeepsTys.nil _ _,?_⟩
    simp [noStr]
    exact ⟨by rw [← hr]; simp,k1⟩
  · have h' : ¬ (w.size : Int)≤40:=by omega
    simp [ir63,h,h']
    exact BH.Keeps.refl H
end Go.Proofs.YtbnmhbmhafbmiaaGreatDoor.W
end

section
namespace Go.Proofs.YtbnmhbmhafbmiaaGreatDoor.W
set_option linter.unusedVariables false
set_option linter.unusedSimpArgs false
open Go.B
open Go.Au
variable {base : Nat}
attribute [local simp] wpC_skip wpC_region wpC_seq wpC_true wpC_false wpC_block wpC_exit wpC_ret wpO_nil wpO_n wpO_tt wpO_ff wpO_tf wpO_ft wpO_u wpS_mov wpS_pick wpS_build wpS_load wpS_store wpS_nilck wpS_bin wpS_beq wpS_isnil wpS_eqs wpS_not wpS_neg wpS_conv wpS_lea wpS_fld wpS_idx wpS_idxs wpS_slice wpS_sslice wpS_mkfn wpS_mset wpS_look wpS_ext wpS_len wpS_new wpS_box wpS_mk wpS_mkmap wpS_mksl wpS_app wpS_fn wpS_call after_some pthen_n pthen_x pthen_r pin BExit.outOf puto_some puto_none put_eq put_ne Opd.ev argEnv op1_mov op1_pick op1_new op1_box op1_load op1_nilck op1_bin op1_beq op1_not op1_neg op1_conv op1_lea op1_fld op1_len0 op1_len1 op1_idx op1_ext op1_build op1_mk op1_stw op1_mksl op1_eqs pureBin isShift resOf resVals val_tmp val_cell oneOf one_int cells_int one_bool cells_bool one_str cells_str one_nilp cells_nilp one_ptr cells_ptr one_nils cells_nils one_sl cells_sl one_sle cells_sle one_nilm cells_nilm one_mp cells_mp one_nilf cells_nilf one_fn cells_fn one_nili cells_nili cells_agg isSl_sl slen_sl sat_sl make_of asm rtOk wpS_b2s op1_b2s wpS_imax op1_imax wpS_imin op1_imin wpS_i2s op1_i2s op1_isnil Option.map_some gam_base op1_app op1_idxs wpS_idxa op1_idxa op1_sslice bound_none bound_some nat_of op1_mkmap op1_mset op1_look op1_len2 op1_mkfn Go.B.fillB Has
theorem strL_pre {w : List Nat} (h : IsW w) : pre (strL w) (strL w).size = true:=by
  unfold pre
  simp only [List.all_eq_true,List.mem_range]
  intro i hi
  rw [strL_size] at hi
  have:=h.get hi
  unfold abAt
  rw [str_get hi h]
  simp only [u8_let this,Bool.or_eq_true,beq_iff_eq]
  exact this
theorem i_wordOk (w : List Nat) (H : BH) (hw : IsW w) (hl : w.length≤40) : FnDoes (gam base) 63 [encW w] H fun v _ => v = .bool true:=by
  obtain ⟨K,h1,h2⟩:=i_wordB (base:=base) (strL w) H (by rw [strL_size]; omega)
  refine ⟨_,K,h1,h2,?_⟩
  rw [strL_pre hw,strL_size]
  simp [hl]
theorem i_wordsOk (ws : List (List Nat)) (v : BV) (H : BH) (h : Rd H 9 v (ws.map encW)) (hw : ∀ w∈ws,IsW w∧w.length≤40) (hn : ws.length≤1000000) : FnDoes (gam base) 59 [v] H fun u _ => u = .bool true:=by
  refine FnDoes.of (fn:=ir59) rfl ?_
  simp [ir59,h.isSl,h.lenM]
  refine wpC_countK ws.length [(5,v),(6,encN ws.length)] (fun i e K => e 7 = encN i∧H.Keeps K) (i0:=0) rfl ?_ ?_ (Nat.zero_le _) ?_
  · simp
  · exact ⟨by simp,BH.Keeps.refl H⟩
  rintro i e K hi ⟨e5,e6,-⟩ ⟨e7,k⟩
  simp only [] at e5 e6
  have wi:=wS (n:=i) (by omega)
  by_cases hlt : i < ws.length
  · have g1:=(h.keeps k).at (i:=i) hlt (rt:=none) rfl
    obtain ⟨a1,a2⟩:=hw _ (List.getElem_mem hlt)
    simp [e5,e6,e7,hlt,h.isSl,h.lenM,g1]
    refine (i_wordOk (base:=base) _ K a1 a2).step fun v2 K2 k2 hv => ?_
    subst hv
    simp [e7,wi,hlt]
    exact k.trans k2
  · have hie : i = ws.length:=by omega
    subst hie
    simp [e6,e7]
    exact k
/-! ### maps of what is there -/
noncomputable instance memDec (s : ByteArray) (ks : List ByteArray) : Decidable (s∈ks):=Classical.propDecidable _
section
variable {H K : BH} {L : List Sl} {ks : List ByteArray} {b : Nat}
end
def dotN (terms : List Int) (xs : List Nat) (j : Nat) : Nat→Int
  | 0 => 0
  | n + 1 => dotN terms xs j n + terms.getD n 0 * ((xs.getD n 0 / 2 ^ j : Nat) : Int)
theorem wdN_length (n : Nat) : (wdN n).length = bl n:=wordL_len n _
theorem dgW_num (n i : Nat) : dgW i (wdN n) = if i < bl n then n / 2 ^ i % 2 else 2:=by
  unfold dgW
  rw [wdN_length]
  split
  · next h =>
    have h2 : (wdN n).getD i 97 = ltr n i:=by
      unfold wdN wordL
      rw [List.getD_eq_getElem?_getD,List.getElem?_map,List.getElem?_range h]
      rfl
    rw [h2]
    unfold ltr
    omega
  · rfl
theorem isW_nums (xs : List Nat) : ∀ w∈xs.map wdN,IsW w:=fun w hw => by
  obtain ⟨n,_,rfl⟩:=List.mem_map.1 hw
  exact wdN_w n
theorem dg_colW {xs : List Nat} {k : Nat} (hk : k < xs.length) (i : Nat) : dg (colW (xs.map wdN) i) k = dgW i (wdN xs[k]):=by
  unfold colW
  rw [dg_colD k (col_dig (isW_nums xs) i) (by simpa using hk)]
  simp [List.getD_eq_getElem?_getD,hk]
theorem bl_lng {xs : List Nat} {k : Nat} (hk : k < xs.length) : bl xs[k]≤lngW (xs.map wdN):=by
  rcases Nat.lt_or_ge (lngW (xs.map wdN)) (bl xs[k]) with h | h
  · have:=lng_lt (ws:=xs.map wdN) (i:=lngW (xs.map wdN))
    exact absurd (this.2 ⟨wdN xs[k],List.mem_map.2 ⟨_,List.getElem_mem hk,rfl⟩,by rw [wdN_length]; exact h⟩) (Nat.lt_irrefl _)
  · exact h
theorem tape_num {xs : List Nat} {k : Nat} (hk : k < xs.length) : ∃ r,(colsW (xs.map wdN)).map (dg · k) = (List.range (bl xs[k])).map (fun i => xs[k] / 2 ^ i % 2)++List.replicate r 2:=by
  obtain ⟨r,hr⟩:=Nat.exists_eq_add_of_le (bl_lng hk)
  refine ⟨r,?_⟩
  unfold colsW
  rw [hr,List.range_add,List.map_append,List.map_append]
  congr 1
  · rw [List.map_map]
    refine List.map_congr_left fun i hi => ?_
    have hi:=List.mem_range.1 hi
    show dg (colW (xs.map wdN) i) k = _
    rw [dg_colW hk,dgW_num,if_pos hi]
  · rw [List.map_map,List.map_map]
    refine List.eq_replicate_iff.2 ⟨by simp,fun d hd => ?_⟩
    obtain ⟨i,hi,rfl⟩:=List.mem_map.1 hd
    show dg (colW (xs.map wdN) (bl xs[k] + i)) k = 2
    rw [dg_colW hk,dgW_num,if_neg (by omega)]
theorem right_nums (xs : List Nat) : rightF xs.length 0 (colsW (xs.map wdN)) = true:=by
  rw [rightF_iff _ 0 (Nat.two_pow_pos _)]
  intro k hk
  obtain ⟨r,e⟩:=tape_num hk
  rw [e,Nat.zero_testBit,rtape_pre fun d hd => by
    obtain ⟨i,_,rfl⟩:=List.mem_map.1 hd
    omega]
  exact rtape_twos fun d hd => (List.mem_replicate.1 hd).2
theorem top_bit {n m : Nat} (h : bl n = m + 1) : n / 2 ^ m % 2 = 1:=by
  have h1:=(bl_pos (n:=n) (r:=m)).2 (by omega)
  have h2 : ¬ 0 < n / 2 ^ (m + 1):=fun hh => by have:=(bl_pos (n:=n) (r:=m + 1)).1 hh; omega
  rw [← half] at h2
  omega
theorem LD_nums (xs : List Nat) : LD (List.range xs.length) (colsW (xs.map wdN)) = true:=by
  unfold LD
  rw [List.all_eq_true]
  intro k hk
  have hk:=List.mem_range.1 hk
  obtain ⟨r,e⟩:=tape_num hk
  unfold dT lettersT
  rw [e,List.filter_append]
  have e1 : ((List.range (bl xs[k])).map (fun i => xs[k] / 2 ^ i % 2)).filter (fun d => decide (d≠2)) = (List.range (bl xs[k])).map (fun i => xs[k] / 2 ^ i % 2):=List.filter_eq_self.2 fun d hd => by
    obtain ⟨i,_,rfl⟩:=List.mem_map.1 hd
    simp; omega
  have e2 : (List.replicate r 2).filter (fun d => decide (d≠2)) = []:=List.filter_eq_nil_iff.2 fun d hd => by simp [(List.mem_replicate.1 hd).2]
  rw [e1,e2,List.append_nil,decide_eq_true_iff]
  cases hb : bl xs[k] with
  | zero => simp
  | succ m =>
    rw [List.range_succ,List.map_append]
    simp [top_bit hb]
def sumOk (kind S s : Int) : Bool:=if kind = 1 then decide (S = s) else decide (S≤s)
theorem dot_step (terms : List Int) (xs : List Nat) (j : Nat) : ∀ n,n≤xs.length→dotN terms xs j n = sumN terms (colW (xs.map wdN) j) n + 2 * dotN terms xs (j + 1) n
  | 0,_ => rfl
  | n + 1,h => by
    have ih:=dot_step terms xs j n (by omega)
    have hn : n < xs.length:=by omega
    have hx : xs.getD n 0 = xs[n]:=by simp [List.getD_eq_getElem?_getD,hn]
    simp only [dotN,sumN]
    rw [ih,dg_colW hn,dgW_num,hx]
    obtain ⟨x,hxe⟩ : ∃ x,x = xs[n]:=⟨_,rfl⟩
    rw [← hxe]
    obtain ⟨a,ha⟩ : ∃ a,a = terms.getD n 0:=⟨_,rfl⟩
    rw [← ha]
    have h2:=half x j
    obtain ⟨q,hq⟩ : ∃ q,q = x / 2 ^ j:=⟨_,rfl⟩
    have hp:=bl_pos (n:=x) (r:=j)
    rw [← hq] at h2 hp ⊢
    rw [← h2]
    have hqi : (q : Int) = ((q % 2 : Nat) : Int) + 2 * ((q / 2 : Nat) : Int):=by omega
    have hm : a * (q : Int) = a * ((q % 2 : Nat) : Int) + 2 * (a * ((q / 2 : Nat) : Int)):=by
      rw [hqi,Int.mul_add]
      congr 1
      rw [← Int.mul_assoc,← Int.mul_assoc,Int.mul_comm a 2]
    rw [hm]
    by_cases hb : j < bl x
    · rw [if_pos hb]
      have h01 : q % 2 = 0∨q % 2 = 1:=by omega
      rcases h01 with h01 | h01
      · rw [h01]; simp; omega
      · rw [h01]; simp; omega
    · rw [if_neg hb]
      have hq0 : q = 0:=by have:=mt hp.1 hb; omega
      subst hq0
      simp
theorem dot_zero (terms : List Int) (xs : List Nat) {j : Nat} (hj : ∀ k,(h : k < xs.length)→bl xs[k]≤j) : ∀ n,n≤xs.length→dotN terms xs j n = 0
  | 0,_ => rfl
  | n + 1,h => by
    have ih:=dot_zero terms xs hj n (by omega)
    have hn : n < xs.length:=by omega
    have hx : xs.getD n 0 = xs[n]:=by simp [List.getD_eq_getElem?_getD,hn]
    have h0 : xs[n] / 2 ^ j = 0:=Nat.eq_zero_of_not_pos (mt (bl_pos (n:=xs[n]) (r:=j)).1 (by have:=hj n hn; omega))
    simp only [dotN]
    rw [ih,hx,h0]
    simp
theorem lin_odd (kind : Int) (sums : Nat→Int) : ∀ cs : List Nat,langK (nxL kind sums) (accL kind) oddI cs = false
  | [] => by
    show accL kind oddI = false
    unfold accL
    simp [oddI]
  | c::cs => by
    have ih:=lin_odd kind sums cs
    show langK (nxL kind sums) (accL kind) (nxL kind sums oddI c) cs = false
    unfold nxL
    rw [if_pos rfl]
    exact ih
theorem lin_nums (kind : Int) (hk : kind = 1∨kind = 2) (terms : List Int) (hT : Terms terms) (xs : List Nat) (hl : xs.length = terms.length) : ∀ (r j : Nat) (s : Int),j + r = lngW (xs.map wdN)→-5000≤s∧s≤5000 →
    langK (nxL kind (sumsF terms)) (accL kind) s ((List.range' j r).map (colW (xs.map wdN))) = sumOk kind (dotN terms xs j terms.length) s
  | 0,j,s,hj,hs => by
    rw [dot_zero terms xs (fun k h => by have:=bl_lng h; omega) terms.length (by omega)]
    show accL kind s = _
    unfold accL sumOk
    have ho : s≠oddI:=by unfold oddI; omega
    rcases hk with rfl | rfl
    · by_cases h0 : s = 0
      · simp [h0]
      · simp [h0]; omega
    · by_cases h0 : s = 0
      · simp [h0]
      · by_cases h1 : 0 < s
        · simp [h0,h1,ho]; omega
        · simp [h0,h1]; omega
  | r + 1,j,s,hj,hs => by
    have hd:=dot_step terms xs j terms.length (by omega)
    have hb:=sumN_le hT (colW (xs.map wdN) j) terms.length
    have h3:=hT.1
    have ho : s≠oddI:=by unfold oddI; omega
    obtain ⟨b,hbe⟩ : ∃ b,b = sumN terms (colW (xs.map wdN) j) terms.length:=⟨_,rfl⟩
    rw [← hbe] at hd hb
    have hsf : sumsF terms (colW (xs.map wdN) j) = b:=hbe.symm
    rw [List.range'_succ,List.map_cons]
    show langK (nxL kind (sumsF terms)) (accL kind) (nxL kind (sumsF terms) s (colW (xs.map wdN) j)) _ = _
    unfold nxL
    rw [if_neg ho,hsf]
    by_cases hodd : kind = 1∧(s - b).tmod 2≠0
    · rw [if_pos hodd]
      have:=lin_odd kind (sumsF terms) ((List.range' (j + 1) r).map (colW (xs.map wdN)))
      unfold nxL at this
      rw [this]
      unfold sumOk
      rw [if_pos hodd.1]
      have hne : (s - b) % 2≠0:=fun h => hodd.2 (Int.tmod_eq_zero_of_dvd (Int.dvd_of_emod_eq_zero h))
      symm
      rw [decide_eq_false_iff_not]
      omega
    · rw [if_neg hodd]
      have ih:=lin_nums kind hk terms hT xs hl r (j + 1) ((s - b) / 2) (by omega) (by omega)
      unfold nxL at ih
      rw [ih]
      unfold sumOk
      rcases hk with rfl | rfl
      · rw [if_pos rfl,if_pos rfl,decide_eq_decide]
        have he : (s - b) % 2 = 0:=by
          have h : (s - b).tmod 2 = 0:=by
            by_cases h : (s - b).tmod 2 = 0
            · exact h
            · exact absurd ⟨rfl,h⟩ hodd
          exact Int.emod_eq_zero_of_dvd (Int.dvd_of_tmod_eq_zero h)
        omega
      · rw [if_neg (by decide),if_neg (by decide),decide_eq_decide]
        omega
theorem linN_holds {kind c0 : Int} {terms U : List Int} {W : Aut} {d : Nat} (hk : kind = 1∨kind = 2) (hT : Terms terms) (hU : Closed (wd terms.length) (nxL kind (sumsF terms)) c0 U) (hc : -5000≤c0∧c0≤5000) (h : linN kind c0 terms U = (some W,d)) (xs : List Nat) (hl : xs.length = terms.length) :
    W.lang 0 (colsW (xs.map wdN)) = sumOk kind (dotN terms xs 0 terms.length) c0:=by
  have h3:=hT.1
  have hW:=linN_some h
  obtain ⟨hX,-,hXl⟩:=linX_ok (terms:=terms) hU
  have hTX:=(TA_spec h3 hX hX.pos).1
  have hD:=(LD_small h3 (S:=List.range terms.length) (fun k hk => List.mem_range.1 hk)).1
  have hp:=prodA_ok (op:=fun a b => a && b) hTX.ok hD.ok
  have hT2:=(TA_spec h3 hp hp.pos).1
  have e : TA terms.length ((prodA (wd terms.length) (TA terms.length ((linX kind c0 terms U).lang 0)) (TA terms.length (LD (List.range terms.length))) fun a b => a && b).lang 0) = W:=by
    rw [hW]
    exact TA_congr fun cs hcs _ => by
      have:=prodA_lang (op:=fun a b => a && b) hTX.ok hD.ok cs 0 0 hTX.ok.pos hD.ok.pos hcs
      rw [Nat.zero_mul,Nat.zero_add] at this
      exact this
  rw [e] at hT2
  have hcs : In (wd terms.length) (colsW (xs.map wdN)):=by
    have:=cols_in (isW_nums xs)
    rwa [List.length_map,hl] at this
  have hr : rightF terms.length 0 (colsW (xs.map wdN)) = true:=by rw [← hl]; exact right_nums xs
  have hld : LD (List.range terms.length) (colsW (xs.map wdN)) = true:=by rw [← hl]; exact LD_nums xs
  rw [hT2.lang hcs]
  unfold rl
  rw [hr,Bool.true_and]
  have hpl:=prodA_lang (op:=fun a b => a && b) hTX.ok hD.ok (colsW (xs.map wdN)) 0 0 hTX.ok.pos hD.ok.pos hcs
  rw [Nat.zero_mul,Nat.zero_add] at hpl
  rw [hpl,hTX.lang hcs,hD.lang hcs]
  unfold rl
  rw [hr,hld,hXl _ hcs]
  simp only [Bool.true_and,Bool.and_true]
  have hln:=lin_nums kind hk terms hT xs hl (lngW (xs.map wdN)) 0 c0 (by omega) hc
  rw [← List.range_eq_range'] at hln
  exact hln
theorem i_Holds (t s : Nat) (ht1 : 1≤t) (ht : t≤3) (A : Aut) (ws : List (List Nat)) (m v : BV) (H : BH) (hA : RdRel H t s A m) (hok : A.Ok (wd t)) (hs : s < A.acc.length) (hn : A.acc.length≤150) (hv : Rd H 9 v (ws.map encW)) (hw : ∀ w∈ws,IsW w∧w.length≤40) (hl : ws.length = t) :
    FnDoes (gam base) 21 [m,v] H fun r _ => r = .tup [.bool (A.lang s (colsW ws)),encN 0]:=by
  refine FnDoes.of (fn:=ir21) rfl ?_
  have g1:=hA
  obtain ⟨u,x,rfl,hu,hx⟩:=hA
  have u1:=hu.one
  have x1:=one_of_isSl hx.isSl
  simp [ir21,u1,x1]
  intro n2 b2 f2
  have o1:=Own.start (base:=base) (H:=H) |>.new f2 b2 (s:=.arr 25 [encN t,encN s,u,x])
  have r2:=rd_all (o1.at 0 (b:=n2) rfl) (n:=4) (rt:=none) rfl rfl
  simp [make_of f2 b2,r2]
  refine (i_valid (base:=base) t s _ _ _ _ (g1.keeps o1.keeps).raw (by omega)).step fun v' K2 k2 hv' => ?_
  rw [ok_valid ht1 ht hok hs hn] at hv'
  subst hv'
  have o2:=o1.call k2
  simp
  refine (i_wordsOk (base:=base) ws v K2 (hv.keeps o2.keeps) hw (by omega)).step fun v' K3 k3 hv' => ?_
  subst hv'
  have o3:=o2.call k3
  have r0:=rd_ptr (o3.at 0 (b:=n2) rfl) (rt:=none) (j:=0) (c:=encN t) rfl rfl
  have r2:=rd_all (o3.at 0 (b:=n2) rfl) (n:=4) (rt:=none) rfl rfl
  simp [hv.isSl,hv.lenM,hl,r0,r2]
  refine (i_machineOf (base:=base) t s (wd t) A _ K3 (g1.keeps o3.keeps) (by have:=wd_3 ht; omega) hok (by omega)).step fun mm K4 k4 hm => ?_
  have hmr:=hm.rd
  have o4:=o3.call k4
  simp
  refine (i_columnsOf (base:=base) ws v K4 (hv.keeps o4.keeps) (fun w h => (hw w h).1) (by omega) (fun w h => by have:=(hw w h).2; omega)).step fun cv K5 k5 hcv => ?_
  obtain ⟨bo,ov,-⟩:=hcv
  have hcl:=lng_le (ws:=ws) (N:=40) fun w h => (hw w h).2
  rw [← colsW_len] at hcl
  simp
  refine (i_takes (base:=base) t s (wd t) A mm cv (colsW ws) K5 (hmr.keeps k5) hok hs ov.rd (by have:=cols_in (ws:=ws) fun w h => (hw w h).1; rwa [hl] at this) (by omega)).step fun v' K6 k6 hv' => ?_
  subst hv'
  simp
  exact (o4.call k5).keeps.trans k6
def encY (b : Int) : BV:=.int .u8 b
theorem l_long (bs cs : List Int) (v w : BV) (H : BH) {ty ty2 : Nat} (h : Rd H ty v (bs.map encY)) (k : Rd H ty2 w (cs.map encY)) : ∃ b,Runs (gam base) 15 [v,w] H (.bool b) H∧(b = false→bs.length≤3000∧cs.length≤3000):=by
  refine ⟨decide (3000 < bs.length) || decide (3000 < cs.length),runs_of (fn:=ir15) rfl ?_,fun h => by simp at h; omega⟩
  have hl : v.slen = bs.length:=by simpa using h.len
  have kl : w.slen = cs.length:=by simpa using k.len
  by_cases h1 : 3000 < bs.length
  · have h1' : (3000 : Int) < (bs.length : Int):=by omega
    simp [ir15,h.isSl,hl,h1,h1']
  · have h1' : ¬ (3000 : Int) < (bs.length : Int):=by omega
    by_cases h2 : 3000 < cs.length
    · have h2' : (3000 : Int) < (cs.length : Int):=by omega
      simp [ir15,h.isSl,hl,k.isSl,kl,h1,h1',h2,h2']
    · have h2' : ¬ (3000 : Int) < (cs.length : Int):=by omega
      simp [ir15,h.isSl,hl,k.isSl,kl,h1,h1',h2,h2']
theorem l_at (bs : List Int) (v : BV) (a n : Nat) (H : BH) {ty : Nat} (h : Rd H ty v (bs.map encY)) (hb : ∀ b∈bs,0≤b∧b < 256) (hl : bs.length≤3000) (hn : 1≤n∧n≤1000000) :
    ∃ z : Nat,z < n∧Runs (gam base) 16 [v,encN a,encN n] H (encN z) H:=by
  have hvl : v.slen = bs.length:=by simpa using h.len
  by_cases hlt : a < bs.length
  · have hbi:=hb _ (List.getElem_mem hlt)
    have g1:=h.at (i:=a) (by simpa using hlt) (rt:=none) rfl
    have g1' : H.rd none none (v.sat a 1) = some (.int .u8 bs[a]):=by simpa [encY] using g1
    obtain ⟨c,hc⟩ : ∃ c : Nat,bs[a] = c:=⟨bs[a].toNat,by omega⟩
    rw [hc] at g1' hbi
    refine ⟨c % n,Nat.mod_lt _ (by omega),runs_of (fn:=ir16) rfl ?_⟩
    have h1 : ¬ (bs.length : Int)≤(a : Int):=by omega
    have h2 : ¬ (n : Int) < 1:=by omega
    have h3 : (n : Int)≠0:=by omega
    have h4 : ¬ n = 0:=by omega
    have wc : IntKind.i64.wrap (c : Int) = c:=w64 (by omega) (by omega)
    have hm : (c : Int).tmod (n : Int) = ((c % n : Nat) : Int):=tmodN c n
    simp [ir16,h.isSl,hvl,h1,h2,h3,h4,hlt,g1',wc,hm]
  · refine ⟨0,by omega,runs_of (fn:=ir16) rfl ?_⟩
    have h1 : (bs.length : Int)≤(a : Int):=by omega
    simp [ir16,h.isSl,hvl,h1]
theorem i_NumberWord (n : Nat) (hn : n≤1000000000) (H : BH) : FnDoes (gam base) 20 [encN n] H fun v _ => v = .tup [encW (wdN n),encN 0]:=by
  refine FnDoes.of (fn:=ir20) rfl ?_
  simp [ir20]
  refine callP (i_isNumber _ H) ?_
  have : inB (n : Int) 0 1000000000 = true:=by simp [inB]; omega
  rw [this]
  simp
  refine (i_word (base:=base) n hn H).step fun v K k hv => ?_
  subst hv
  rw [wordB_eq]
  simp
  exact k
theorem in_cons {w c : Nat} {cs : List Nat} (h1 : c < w) (h2 : In w cs) : In w (c::cs):=fun x hx => by
  rcases List.mem_cons.1 hx with rfl | hx
  · exact h1
  · exact h2 x hx
theorem tidy_dist {w : Nat} {A : Aut} {L : List Nat→Bool} (h : IsTidy w A L) {p q : Nat} (hp : p < A.acc.length) (hq : q < A.acc.length) (he : ∀ cs,In w cs→A.lang p cs = A.lang q cs) : p = q:=by
  obtain ⟨κ,i1,nx,a,s,n,hd,rfl,hdist,hl⟩:=h
  have hnd:=met_nodup (sx:=succs w nx) (s:=s) n
  have hcl : ∀ k∈metL (succs w nx) s n,∀ c,c < w→nx k c∈metL (succs w nx) s n:=fun k hk c hc => Done.closed hd hk hc
  obtain ⟨ks,hks⟩ : ∃ ks,ks = metL (succs w nx) s n:=⟨_,rfl⟩
  rw [← hks] at hdist hp hq he hnd hcl
  have hp' : p < ks.length:=by simpa [autOf] using hp
  have hq' : q < ks.length:=by simpa [autOf] using hq
  have e : ∀ {i : Nat} (hi : i < ks.length),pos ks ks[i] = i:=fun {i} hi => by
    unfold pos
    exact List.Nodup.idxOf_getElem hnd i hi
  have h1:=hdist ks[p] (List.getElem_mem hp') ks[q] (List.getElem_mem hq') fun cs hc => by
    have l1:=autOf_lang (a:=a) hcl (List.getElem_mem hp') hc
    have l2:=autOf_lang (a:=a) hcl (List.getElem_mem hq') hc
    rw [e hp'] at l1
    rw [e hq'] at l2
    rw [← l1,← l2]
    exact he cs hc
  exact (e hp').symm.trans ((congrArg (pos ks) h1).trans (e hq'))
def Real {κ : Type} (A : Aut) (nx : κ→Nat→κ) (a : κ→Bool) (w : Nat) (k : κ) : Prop:=∃ q,q < A.acc.length∧∀ cs,In w cs→A.lang q cs = langK nx a k cs
noncomputable def setF {κ : Type} (A : Aut) (nx : κ→Nat→κ) (a : κ→Bool) (w : Nat) (T : List κ) : List Bool:=by
  classical
  exact (List.range A.acc.length).map fun p => decide (∃ k∈T,∀ cs,In w cs→A.lang p cs = langK nx a k cs)
section
variable {κ : Type} {nx : κ→Nat→κ} {a : κ→Bool} {s0 : κ} {A : Aut} {L : List Nat→Bool} {w : Nat} {T T' : List κ}
theorem setF_len : (setF A nx a w T).length = A.acc.length:=by simp [setF]
theorem setF_at {p : Nat} (hp : p < (setF A nx a w T).length) : (setF A nx a w T)[p] = true↔∃ k∈T,∀ cs,In w cs→A.lang p cs = langK nx a k cs:=by
  classical
  simp [setF]
theorem setF_get {p : Nat} (hp : p < A.acc.length) : (setF A nx a w T).getD p false = true↔∃ k∈T,∀ cs,In w cs→A.lang p cs = langK nx a k cs:=by
  have h : p < (setF A nx a w T).length:=by rw [setF_len]; exact hp
  rw [List.getD_eq_getElem?_getD,List.getElem?_eq_getElem h]
  exact setF_at h
theorem col_wd {c d : Nat} (hc : c < wd 1) (hd : d < 3) : withC 1 1 c d < wd 2:=withC_wd (t:=1) (tape:=1) (Nat.le_refl _) hd (.inr hc)
theorem set_step (hT : IsTidy (wd 2) A L) {c : Nat} (hc : c < wd 1) (hreal : ∀ k∈T,Real A nx a (wd 2) k) (hst : ∀ k',k'∈T'↔∃ k∈T,∃ d,d < 3∧nx k (withC 1 1 c d) = k') :
    nxB A 1 1 (setF A nx a (wd 2) T) c = setF A nx a (wd 2) T':=by
  apply List.ext_getElem
  · rw [nxB_len,setF_len]
  intro p h1 h2
  have hp : p < A.acc.length:=by rwa [nxB_len] at h1
  rw [Bool.eq_iff_iff,setF_at h2]
  simp only [nxB,List.getElem_map,List.getElem_range,List.any_eq_true,List.mem_range,Bool.and_eq_true,decide_eq_true_eq]
  constructor
  · rintro ⟨q,hq,h3,d,hd,rfl⟩
    obtain ⟨k,hk,hl⟩:=(setF_get hq).1 h3
    exact ⟨nx k (withC 1 1 c d),(hst _).2 ⟨k,hk,d,hd,rfl⟩,fun cs hcs => hl (withC 1 1 c d::cs) (in_cons (col_wd hc hd) hcs)⟩
  · rintro ⟨k',hk',hl⟩
    obtain ⟨k,hk,d,hd,rfl⟩:=(hst k').1 hk'
    obtain ⟨q,hq,hql⟩:=hreal k hk
    refine ⟨q,hq,(setF_get hq).2 ⟨k,hk,hql⟩,d,hd,?_⟩
    refine tidy_dist hT (hT.ok.to hq (col_wd hc hd)) hp fun cs hcs => ?_
    rw [hl cs hcs]
    exact hql (withC 1 1 c d::cs) (in_cons (col_wd hc hd) hcs)
theorem set_bound (hT : IsTidy (wd 2) A L) (hs : ∀ cs,In (wd 2) cs→A.lang 0 cs = langK nx a s0 cs) (UT : List (List κ)) (h0 : [s0]∈UT) (h1 : ∀ T∈UT,∀ c,c < wd 1→∃ T'∈UT,∀ k',k'∈T'↔∃ k∈T,∃ d,d < 3∧nx k (withC 1 1 c d) = k') :
    ∃ U,Closed (wd 1) (nxB A 1 1) (startB A.acc.length 0) U∧U.length≤UT.length:=by
  classical
  refine ⟨(UT.filter fun T => decide (∀ k∈T,Real A nx a (wd 2) k)).map (setF A nx a (wd 2)),⟨?_,?_⟩,?_⟩
  · refine List.mem_map.2 ⟨[s0],List.mem_filter.2 ⟨h0,decide_eq_true fun k hk => ?_⟩,?_⟩
    · obtain rfl : k = s0:=by simpa using hk
      exact ⟨0,hT.ok.pos,hs⟩
    · apply List.ext_getElem
      · rw [setF_len,startB_len]
      intro p h2 h3
      have hp : p < A.acc.length:=by rwa [setF_len] at h2
      rw [Bool.eq_iff_iff,setF_at h2]
      simp only [startB,List.getElem_map,List.getElem_range,decide_eq_true_eq]
      constructor
      · rintro ⟨k,hk,hl⟩
        obtain rfl : k = s0:=by simpa using hk
        exact tidy_dist hT hp hT.ok.pos fun cs hcs => (hl cs hcs).trans (hs cs hcs).symm
      · rintro rfl
        exact ⟨s0,List.mem_cons_self,hs⟩
  · intro S hS c hc
    obtain ⟨T,hT',rfl⟩:=List.mem_map.1 hS
    obtain ⟨m1,m2⟩:=List.mem_filter.1 hT'
    have m2:=of_decide_eq_true m2
    obtain ⟨T',m3,hst⟩:=h1 T m1 c hc
    refine List.mem_map.2 ⟨T',List.mem_filter.2 ⟨m3,decide_eq_true fun k' hk' => ?_⟩,(set_step hT hc m2 hst).symm⟩
    obtain ⟨k,hk,d,hd,rfl⟩:=(hst k').1 hk'
    obtain ⟨q,hq,hl⟩:=m2 k hk
    exact ⟨A.to q (withC 1 1 c d),hT.ok.to hq (col_wd hc hd),fun cs hcs => hl (withC 1 1 c d::cs) (in_cons (col_wd hc hd) hcs)⟩
  · rw [List.length_map]
    exact List.length_filter_le _ _
end
theorem right_one {cs : List Nat} (h : In (wd 1) cs) : rightF 1 0 cs = true:=by
  rw [rightF_iff _ 0 (Nat.two_pow_pos _)]
  intro k hk
  obtain rfl : k = 0:=by omega
  have:=rtape_pre (u:=cs.map (dg · 0)) (ds:=[]) fun d hd => by
    obtain ⟨c,hc,rfl⟩:=List.mem_map.1 hd
    have h2 : c < 2:=h c hc
    unfold dg
    rw [qt_zero]
    omega
  rw [List.append_nil] at this
  rw [Nat.zero_testBit,this]
  rfl
theorem some_few (l : Nat) (hl : l = 1000) {A : Aut} {U : List (List Bool)} (hU : Closed (wd 1) (nxB A 1 1) (startB A.acc.length 0) U) (hn : U.length≤150) :
    ∃ S,someN l 1 1 A = (some S,0)∧∀ cs,In (wd 1) cs→S.lang 0 cs = langK (nxB A 1 1) (acB A 1 1) (startB A.acc.length 0) cs:=by
  have h1 : (setA l 1 1 A).acc.length≤150:=by
    rw [setA_len]
    exact Nat.le_trans (hU.len l) hn
  have hd : Done (wd 1) (nxB A 1 1) (startB A.acc.length 0) l:=by
    unfold Done DoneL
    rw [← setA_len]
    omega
  obtain ⟨h2,h3⟩:=autOf_done (a:=acB A 1 1) hd
  have h2 : (setA l 1 1 A).Ok (wd 1):=h2
  have h3 : ∀ cs,In (wd 1) cs→(setA l 1 1 A).lang 0 cs = langK (nxB A 1 1) (acB A 1 1) (startB A.acc.length 0) cs:=h3
  obtain ⟨h4,h5⟩:=TA_small (t:=1) h2 h2.pos (L:=langK (nxB A 1 1) (acB A 1 1) (startB A.acc.length 0)) fun cs hcs => by
    rw [h3 cs hcs]
    unfold rl
    rw [right_one hcs,Bool.true_and]
  refine ⟨TA 1 (langK (nxB A 1 1) (acB A 1 1) (startB A.acc.length 0)),?_,fun cs hcs => ?_⟩
  · unfold someN told
    rw [if_neg (by omega),if_neg (by omega)]
  · rw [h4.lang hcs]
    unfold rl
    rw [right_one hcs,Bool.true_and]
def encM (v : Int) (k : Ks) : Nat:=match k with
  | some [a,b] => if v = oddI then 0 else 1 + v.toNat * 9 + a * 3 + b
  | _ => 0
def nxM (m : Int) (e c : Nat) : Nat:=if e = 0 then 0 else encM (nxL 1 (sumsF [1,-m]) (((e - 1) / 9 : Nat) : Int) c) (ksNx 2 [0,1] (some [(e - 1) % 9 / 3,(e - 1) % 3]) c)
def acM (e : Nat) : Bool:=if e = 0 then false else accL 1 (((e - 1) / 9 : Nat) : Int) && ksAcc 2 [0,1] (some [(e - 1) % 9 / 3,(e - 1) % 3])
theorem dec_enc {v : Int} {a b : Nat} (hv : 0≤v∧v < 1000) (ha : a < 3) (hb : b < 3) : ∃ e,encM v (some [a,b]) = e∧e≠0∧(((e - 1) / 9 : Nat) : Int) = v∧(e - 1) % 9 / 3 = a∧(e - 1) % 3 = b∧e = 1 + v.toNat * 9 + a * 3 + b:=by
  have ho : v≠oddI:=by unfold oddI; omega
  refine ⟨1 + v.toNat * 9 + a * 3 + b,if_neg ho,?_⟩
  omega
theorem enc_none (v : Int) : encM v none = 0:=rfl
theorem enc_odd (k : Ks) : encM oddI k = 0:=by
  unfold encM
  split
  · rw [if_pos rfl]
  · rfl
theorem rest_sum (m : Int) (c : Nat) : sumsF [1,-m] c = (if dg c 0 = 1 then 1 else 0) + (if dg c 1 = 1 then -m else 0):=by
  show sumN [1,-m] c 2 = _
  simp only [sumN]
  simp
theorem rest_next {m v : Int} {c : Nat} (hm : 1≤m∧m≤9) (hv : v = oddI∨(0≤v∧v < m)) : nxL 1 (sumsF [1,-m]) v c = oddI∨(0≤nxL 1 (sumsF [1,-m]) v c∧nxL 1 (sumsF [1,-m]) v c < m):=by
  unfold nxL
  split
  · exact .inl rfl
  · next ho =>
    split
    · exact .inl rfl
    · next hk =>
      have hv:=hv.resolve_left ho
      have h2 : (v - sumsF [1,-m] c) % 2 = 0:=by
        have h : (v - sumsF [1,-m] c).tmod 2 = 0:=by
          by_cases h : (v - sumsF [1,-m] c).tmod 2 = 0
          · exact h
          · exact absurd ⟨rfl,h⟩ hk
        exact Int.emod_eq_zero_of_dvd (Int.dvd_of_tmod_eq_zero h)
      rw [rest_sum] at h2 ⊢
      obtain ⟨x,hx⟩ : ∃ x : Int,x = if dg c 0 = 1 then 1 else 0:=⟨_,rfl⟩
      obtain ⟨q,hq⟩ : ∃ q : Int,q = if dg c 1 = 1 then -m else 0:=⟨_,rfl⟩
      have hx' : x = 0∨x = 1:=by rw [hx]; split <;> simp
      have hq' : q = 0∨q = -m:=by rw [hq]; split <;> simp
      rw [← hx,← hq] at h2 ⊢
      refine .inr ?_
      omega
theorem encM_step {m v : Int} {k : Ks} {c : Nat} (hm : 1≤m∧m≤9) (hk : KsOk k) (hv : v = oddI∨(0≤v∧v < m)) : nxM m (encM v k) c = encM (nxL 1 (sumsF [1,-m]) v c) (ksNx 2 [0,1] k c):=by
  rcases hk with rfl | ⟨a,b,ha,hb,rfl⟩
  · rfl
  rcases hv with rfl | hv
  · rw [enc_odd]
    have : nxL 1 (sumsF [1,-m]) oddI c = oddI:=by unfold nxL; rw [if_pos rfl]
    rw [this,enc_odd]
    rfl
  · obtain ⟨e,h1,h2,h3,h4,h5,-⟩:=dec_enc (v:=v) (by omega) ha hb
    rw [h1]
    unfold nxM
    rw [if_neg h2,h3,h4,h5]
theorem encM_acc {m v : Int} {k : Ks} (hm : 1≤m∧m≤9) (hk : KsOk k) (hv : v = oddI∨(0≤v∧v < m)) : acM (encM v k) = (accL 1 v && ksAcc 2 [0,1] k):=by
  rcases hk with rfl | ⟨a,b,ha,hb,rfl⟩
  · rw [enc_none]
    simp [acM,ksAcc]
  rcases hv with rfl | hv
  · rw [enc_odd]
    have : accL 1 oddI = false:=by decide
    rw [this]
    rfl
  · obtain ⟨e,h1,h2,h3,h4,h5,-⟩:=dec_enc (v:=v) (by omega) ha hb
    rw [h1]
    unfold acM
    rw [if_neg h2,h3,h4,h5]
theorem encM_lang {m : Int} (hm : 1≤m∧m≤9) : ∀ (cs : List Nat) (v : Int) (k : Ks),KsOk k→(v = oddI∨(0≤v∧v < m))→langK (nxM m) acM (encM v k) cs = (langK (nxL 1 (sumsF [1,-m])) (accL 1) v cs && langK (ksNx 2 [0,1]) (ksAcc 2 [0,1]) k cs)
  | [],v,k,hk,hv => encM_acc hm hk hv
  | c::cs,v,k,hk,hv => by
    rw [langK_cons,langK_cons,langK_cons,encM_step hm hk hv]
    exact encM_lang hm cs _ _ (ks_ok k c) (rest_next hm hv)
theorem encM_lt {m v : Int} {k : Ks} (hm : 1≤m∧m≤9) (hk : KsOk k) (hv : v = oddI∨(0≤v∧v < m)) : encM v k < 82:=by
  rcases hk with rfl | ⟨a,b,ha,hb,rfl⟩
  · rw [enc_none]; omega
  rcases hv with rfl | hv
  · rw [enc_odd]; omega
  · obtain ⟨e,h1,-,-,-,-,h6⟩:=dec_enc (v:=v) (by omega) ha hb
    rw [h1]
    omega
def MOk (m : Int) (e : Nat) : Prop:=∃ v k,KsOk k∧(v = oddI∨(0≤v∧v < m))∧e = encM v k
theorem MOk.step {m : Int} (hm : 1≤m∧m≤9) {e : Nat} (h : MOk m e) (c : Nat) : MOk m (nxM m e c):=by
  obtain ⟨v,k,h1,h2,rfl⟩:=h
  exact ⟨_,_,ks_ok k c,rest_next hm h2,encM_step hm h1 h2⟩
theorem MOk.lt {m : Int} (hm : 1≤m∧m≤9) {e : Nat} (h : MOk m e) : e < 82:=by
  obtain ⟨v,k,h1,h2,rfl⟩:=h
  exact encM_lt hm h1 h2
theorem M_closed {m : Int} (hm : 1≤m∧m≤9) {e0 : Nat} (h0 : MOk m e0) : ∃ U : List Nat,Closed (wd 2) (nxM m) e0 U∧U.length≤82:=by
  classical
  refine ⟨(List.range 82).filter fun e => decide (MOk m e),⟨List.mem_filter.2 ⟨List.mem_range.2 (h0.lt hm),decide_eq_true h0⟩,fun e he c _ => ?_⟩,?_⟩
  · have h:=of_decide_eq_true (List.mem_filter.1 he).2
    exact List.mem_filter.2 ⟨List.mem_range.2 ((h.step hm c).lt hm),decide_eq_true (h.step hm c)⟩
  · exact Nat.le_trans (List.length_filter_le _ _) (by rw [List.length_range]; exact Nat.le_refl _)
def tabM : Nat→List (List Nat)
  | 1 => [[1],[0,5,6],[0,1]]
  | 2 => [[1],[5,6,13],[0],[0,5,6,13],[0,2,3,10],[10],[2,3,10]]
  | 3 => [[1],[0,5,6],[0,10],[0,22],[0,2,3],[0,14,15],[0,19],[10],[19]]
  | 4 => [[1],[5,6,22],[0],[0,5,6,14,15,22,31],[0,2,3,11,12,19,28],[10],[2,3,19],[19],[14,15,31],[28],[11,12,28]]
  | 5 => [[1],[0,5,6],[0,19],[0,14,15],[0,28],[0,40],[0,11,12],[0,31],[0,2,3],[0,23,24],[0,37],[10],[19],[28],[37]]
  | 6 => [[1],[5,6,31],[0],[0,5,6,31],[0,11,12,37],[0,23,24,49],[0,2,3,28],[0,14,15,40],[0,20,21,46],[10],[2,3,28],[19],[14,15,40],[28],[11,12,37],[37],[23,24,49],[46],[20,21,46]]
  | 7 => [[1],[0,5,6],[0,28],[0,49],[0,11,12],[0,40],[0,2,3],[0,23,24],[0,46],[0,58],[0,20,21],[0,14,15],[0,37],[0,32,33],[0,55],[10],[19],[28],[37],[46],[55]]
  | 8 => [[1],[5,6,40],[0],[0,5,6,23,24,40,58],[0,5,6,14,15,23,24,32,33,40,49,58,67],[0,2,3,11,12,20,21,29,30,37,46,55,64],[10],[2,3,37],[19],[14,15,49],[0,2,3,20,21,37,55],[28],[11,12,46],[37],[23,24,58],[0,14,15,32,33,49,67],[46],[20,21,55],[55],[32,33,67],[0,11,12,29,30,46,64],[64],[29,30,64]]
  | 9 => [[1],[0,5,6],[0,37],[0,23,24],[0,55],[0,32,33],[0,64],[0,76],[0,29,30],[0,58],[0,11,12],[0,49],[0,2,3],[0,67],[0,20,21],[0,14,15],[0,46],[0,41,42],[0,73],[10],[19],[28],[37],[46],[55],[64],[73]]
  | _ => []
def eqM (A B : List Nat) : Bool:=(A.all fun x => B.contains x) && B.all fun x => A.contains x
def nextM (m : Nat) (T : List Nat) (c : Nat) : List Nat:=T.flatMap fun e => [0,1,2].map fun d => nxM m e (withC 1 1 c d)
def okM (m : Nat) : Bool:=((tabM m).all fun T => [0,1].all fun c => (tabM m).any fun T' => eqM T' (nextM m T c)) && ((List.range m).all fun r => (tabM m).contains [1 + r * 9]) && decide ((tabM m).length≤150)
theorem okM_all : ([1,2,3,4,5,6,7,8,9].all okM) = true:=by decide +kernel
theorem eqM_mem {A B : List Nat} (h : eqM A B = true) (x : Nat) : x∈A↔x∈B:=by
  unfold eqM at h
  rw [Bool.and_eq_true,List.all_eq_true,List.all_eq_true] at h
  exact ⟨fun hx => by simpa using h.1 x hx,fun hx => by simpa using h.2 x hx⟩
theorem rest_sets {m r : Nat} (hm : 1≤m∧m≤9) (hr : r < m) : [1 + r * 9]∈tabM m∧(tabM m).length≤150∧∀ T∈tabM m,∀ c,c < wd 1→∃ T'∈tabM m,∀ k',k'∈T'↔∃ k∈T,∃ d,d < 3∧nxM m k (withC 1 1 c d) = k':=by
  have h : okM m = true:=by
    have:=okM_all
    rw [List.all_eq_true] at this
    refine this m ?_
    simp
    omega
  unfold okM at h
  rw [Bool.and_eq_true,Bool.and_eq_true,List.all_eq_true,List.all_eq_true,decide_eq_true_iff] at h
  obtain ⟨⟨h1,h2⟩,h3⟩:=h
  refine ⟨by simpa using h2 r (List.mem_range.2 hr),h3,fun T hT c hc => ?_⟩
  have hc : c < 2:=hc
  have h4:=h1 T hT
  rw [List.all_eq_true] at h4
  have h5:=h4 c (by simp; omega)
  rw [List.any_eq_true] at h5
  obtain ⟨T',m1,m2⟩:=h5
  refine ⟨T',m1,fun k' => ?_⟩
  rw [eqM_mem m2]
  unfold nextM
  rw [List.mem_flatMap]
  refine exists_congr fun k => and_congr_right fun _ => ?_
  rw [List.mem_map]
  constructor
  · rintro ⟨d,hd,e⟩
    exact ⟨d,by simp at hd; omega,e⟩
  · rintro ⟨d,hd,e⟩
    exact ⟨d,by simp; omega,e⟩
theorem LD2_len : (TA 2 (LD (List.range 2))).acc.length≤10:=by
  have hS : ∀ k∈List.range 2,k < 2:=fun k hk => List.mem_range.1 hk
  obtain ⟨h1,h2,h3⟩:=autOf_met (a:=ksAcc 2 (List.range 2)) (ks_closed 2 (List.range 2))
  obtain ⟨g1,g2⟩:=TA_small (L:=LD (List.range 2)) h1 h1.pos fun cs hc => by rw [h3 cs hc,ks_rl hS]
  refine Nat.le_trans g2 (Nat.le_trans h2 ?_)
  rw [List.length_cons,List.length_map,allQ_len]
  decide
theorem rest_lin (m r : Nat) (hm : 1≤m∧m≤9) (hr : r < m) : ∃ A,linN 1 (r : Int) [1,-(m : Int)] (rangeU (-1) 22) = (some A,0)∧(∃ L,IsTidy (wd 2) A L)∧TA 2 (A.lang 0) = A∧∀ cs,In (wd 2) cs→A.lang 0 cs = langK (nxM m) acM (1 + r * 9) cs:=by
  have hU:=rest_closed (m:=(m : Int)) (rest:=(r : Int)) (by omega) (by omega)
  obtain ⟨hX,-,hl⟩:=linX_ok (terms:=[1,-(m : Int)]) hU
  have hU2 : Closed (wd 2) (nxL 1 (sumsF [1,-(m : Int)])) (r : Int) (oddI::(List.range m).map fun (i : Nat) => (i : Int)):=by
    have key : ∀ v : Int,v = oddI∨(0≤v∧v < m)→v∈(oddI::(List.range m).map fun (i : Nat) => (i : Int)):=fun v hv => by
      rcases hv with rfl | hv
      · exact List.mem_cons_self
      · exact List.mem_cons_of_mem _ (List.mem_map.2 ⟨v.toNat,List.mem_range.2 (by omega),by omega⟩)
    refine ⟨key _ (.inr (by omega)),fun v hv c _ => key _ (rest_next (by omega) ?_)⟩
    rcases List.mem_cons.1 hv with h | h
    · exact .inl h
    · obtain ⟨i,hi,rfl⟩:=List.mem_map.1 h
      have:=List.mem_range.1 hi
      exact .inr (by omega)
  have hXl : (linX 1 (r : Int) [1,-(m : Int)] (rangeU (-1) 22)).acc.length≤10:=by
    have h:=hU2.len (rangeU (-1) 22).length
    have e : (linX 1 (r : Int) [1,-(m : Int)] (rangeU (-1) 22)).acc.length = (metL (succs (wd 2) (nxL 1 (sumsF [1,-(m : Int)]))) (r : Int) (rangeU (-1) 22).length).length:=by
      unfold linX
      simp [autOf]
    rw [e]
    refine Nat.le_trans h ?_
    rw [List.length_cons,List.length_map,List.length_range]
    omega
  obtain ⟨X,hXX⟩ : ∃ X,X = linX 1 (r : Int) [1,-(m : Int)] (rangeU (-1) 22):=⟨_,rfl⟩
  have hlin : linN 1 (r : Int) [1,-(m : Int)] (rangeU (-1) 22) = bothN 2 (fun a b => a && b) (told (TA 2 (X.lang 0))) (some (TA 2 (LD (List.range 2))),0):=by rw [hXX]; rfl
  rw [← hXX] at hX hXl hl
  have hX : X.Ok (wd 2):=hX
  have hl : ∀ cs,In (wd 2) cs→X.lang 0 cs = langK (nxL 1 (sumsF [1,-(m : Int)])) (accL 1) (r : Int) cs:=hl
  have hTX:=(TA_spec (t:=2) (by decide) hX hX.pos).1
  have hT:=TA_len2 (t:=2) hX hX.pos
  have hD:=(LD_small (t:=2) (by decide) (S:=List.range 2) (fun k hk => List.mem_range.1 hk)).1
  have hD2:=LD2_len
  have hDD : TA 2 ((TA 2 (LD (List.range 2))).lang 0) = TA 2 (LD (List.range 2)):=TA_congr fun cs hc hr => by
    rw [hD.lang hc]
    simp [rl,hr]
  have e0 : MOk (m : Int) (1 + r * 9):=⟨(r : Int),some [0,0],.inr ⟨0,0,by decide,by decide,rfl⟩,.inr (by omega),by
    obtain ⟨e,h1,-,-,-,-,h6⟩:=dec_enc (v:=(r : Int)) (a:=0) (b:=0) (by omega) (by decide) (by decide)
    rw [h1,h6]
    omega⟩
  obtain ⟨UE,hUE,hUl⟩:=M_closed (m:=(m : Int)) (by omega) e0
  obtain ⟨h1,h2,h3⟩:=autOf_met (a:=acM) hUE
  have hEl : ∀ cs,In (wd 2) cs→langK (nxM m) acM (1 + r * 9) cs = rl 2 (fun cs => (TA 2 (X.lang 0)).lang 0 cs && (TA 2 (LD (List.range 2))).lang 0 cs) cs:=fun cs hcs => by
    have e1:=encM_lang (m:=(m : Int)) (by omega) cs (r : Int) (some [0,0]) (.inr ⟨0,0,by decide,by decide,rfl⟩) (.inr (by omega))
    have e2 : encM (r : Int) (some [0,0]) = 1 + r * 9:=by
      obtain ⟨e,h1,-,-,-,-,h6⟩:=dec_enc (v:=(r : Int)) (a:=0) (b:=0) (by omega) (by decide) (by decide)
      rw [h1,h6]
      omega
    rw [e2] at e1
    rw [e1]
    have e3 : langK (ksNx 2 [0,1]) (ksAcc 2 [0,1]) (some [0,0]) cs = rl 2 (LD (List.range 2)) cs:=ks_rl (t:=2) (S:=List.range 2) (fun k hk => List.mem_range.1 hk) cs
    rw [e3]
    show _ = (rightF 2 0 cs && ((TA 2 (X.lang 0)).lang 0 cs && (TA 2 (LD (List.range 2))).lang 0 cs))
    rw [hTX.lang hcs,hD.lang hcs]
    unfold rl
    rw [hl cs hcs]
    cases rightF 2 0 cs <;> simp
  obtain ⟨g1,g2⟩:=TA_small (t:=2) h1 h1.pos (L:=fun cs => (TA 2 (X.lang 0)).lang 0 cs && (TA 2 (LD (List.range 2))).lang 0 cs) fun cs hcs => by
    rw [h3 cs hcs,hEl cs hcs]
  refine ⟨TA 2 (fun cs => (TA 2 (X.lang 0)).lang 0 cs && (TA 2 (LD (List.range 2))).lang 0 cs),?_,⟨_,g1⟩,TA_congr fun cs hc hr => ?_,fun cs hcs => ?_⟩
  · rw [hlin]
    have e1 : told (TA 2 (X.lang 0)) = (some (TA 2 (X.lang 0)),0):=by
      unfold told
      rw [if_neg (by omega)]
    rw [e1]
    show joinN 2 (fun a b => a && b) ((TA 2 (X.lang 0)).lang 0) ((TA 2 (LD (List.range 2))).lang 0) = _
    unfold joinN
    rw [hDD,TA_idem (by decide) hX hX.pos]
    have h7 : (TA 2 (X.lang 0)).acc.length * (TA 2 (LD (List.range 2))).acc.length≤41 * 10:=Nat.mul_le_mul (by omega) hD2
    rw [if_neg (by omega)]
    have h82 : ¬ 150 < (TA 2 (fun cs => (TA 2 (X.lang 0)).lang 0 cs && (TA 2 (LD (List.range 2))).lang 0 cs)).acc.length:=by omega
    exact if_neg h82
  · rw [g1.lang hc]
    simp [rl,hr]
  · rw [g1.lang hcs,hEl cs hcs]
theorem rest_some (l m r : Nat) (hl : l = 1000) (hm : 1≤m∧m≤9) (hr : r < m) : ∃ A S,restN l (m : Int) (r : Int) = (some S,0)∧linN 1 (r : Int) [1,-(m : Int)] (rangeU (-1) 22) = (some A,0) ∧
    (∀ cs,In (wd 2) cs→A.lang 0 cs = langK (nxM m) acM (1 + r * 9) cs)∧A.Ok (wd 2)∧∀ cs,In (wd 1) cs→S.lang 0 cs = langK (nxB A 1 1) (acB A 1 1) (startB A.acc.length 0) cs:=by
  obtain ⟨A,e1,⟨L,hT⟩,e2,e3⟩:=rest_lin m r hm hr
  obtain ⟨h0,hlen,hst⟩:=rest_sets hm hr
  obtain ⟨U,hU,hUl⟩:=set_bound hT e3 (tabM m) h0 hst
  obtain ⟨S,e4,e5⟩:=some_few l hl hU (by omega)
  refine ⟨A,S,?_,e1,e3,hT.ok,e5⟩
  unfold restN
  rw [if_pos ⟨by simp [inB]; omega,by simp [inB]; omega⟩,e1]
  show someN l 1 1 (TA 2 (A.lang 0)) = _
  rw [e2,e4]
def zipC (cs vs : List Nat) : List Nat:=List.zipWith (withC 1 1) cs vs
theorem set_lang {A : Aut} (hA : A.Ok (wd 2)) : ∀ (cs : List Nat) (S : List Bool),In (wd 1) cs→(langK (nxB A 1 1) (acB A 1 1) S cs = true↔∃ q,q < A.acc.length∧S.getD q false = true∧∃ vs : List Nat,vs.length = cs.length∧(∀ d∈vs,d < 3)∧∃ ds : List Nat,(∀ d∈ds,d < 2)∧A.lang q (zipC cs vs++ds.map (withC 1 1 (wd 1))) = true)
  | [],S,_ => by
    show acB A 1 1 S = true↔_
    unfold acB
    rw [List.any_eq_true]
    constructor
    · rintro ⟨q,hq,h⟩
      rw [Bool.and_eq_true] at h
      obtain ⟨ds,h1,h2⟩:=endQ_iff.1 h.2
      exact ⟨q,List.mem_range.1 hq,h.1,[],rfl,by simp,ds,h1,h2⟩
    · rintro ⟨q,hq,h1,vs,h2,-,ds,h3,h4⟩
      refine ⟨q,List.mem_range.2 hq,?_⟩
      rw [Bool.and_eq_true]
      exact ⟨h1,endQ_iff.2 ⟨ds,h3,h4⟩⟩
  | c::cs,S,hin => by
    rw [langK_cons,set_lang hA cs _ hin.tail]
    constructor
    · rintro ⟨p,hp,h1,vs,h2,h3,ds,h4,h5⟩
      have h6 : ∃ q,q < A.acc.length∧S.getD q false = true∧∃ d,d < 3∧A.to q (withC 1 1 c d) = p:=by
        rw [List.getD_eq_getElem?_getD,List.getElem?_eq_getElem (by rw [nxB_len]; exact hp)] at h1
        simpa [nxB,and_assoc] using h1
      obtain ⟨q,hq,h7,d,hd,rfl⟩:=h6
      refine ⟨q,hq,h7,d::vs,by simp [h2],fun x hx => ?_,ds,h4,h5⟩
      rcases List.mem_cons.1 hx with rfl | hx
      · exact hd
      · exact h3 x hx
    · rintro ⟨q,hq,h1,vs,h2,h3,ds,h4,h5⟩
      cases vs with
      | nil => simp at h2
      | cons d vs =>
        have hd:=h3 d List.mem_cons_self
        have h5 : A.lang (A.to q (withC 1 1 c d)) (zipC cs vs++ds.map (withC 1 1 (wd 1))) = true:=h5
        have hp:=hA.to hq (col_wd hin.head hd)
        refine ⟨A.to q (withC 1 1 c d),hp,?_,vs,by simpa using h2,fun x hx => h3 x (List.mem_cons_of_mem _ hx),ds,h4,h5⟩
        rw [List.getD_eq_getElem?_getD,List.getElem?_eq_getElem (by rw [nxB_len]; exact hp)]
        simp [nxB,and_assoc]
        exact ⟨q,hq,h1,d,hd,rfl⟩
def bitL : List Nat→Nat
  | [] => 0
  | d::ds => (if d = 1 then 1 else 0) + 2 * bitL ds
theorem bit_app : ∀ (u v : List Nat),(∀ d∈v,d = 2)→bitL (u++v) = bitL u
  | [],[],_ => rfl
  | [],d::v,h => by
    have ih:=bit_app [] v fun x hx => h x (List.mem_cons_of_mem _ hx)
    have hd:=h d List.mem_cons_self
    rw [List.nil_append] at ih ⊢
    simp only [bitL]
    rw [ih,hd]
    rfl
  | d::u,v,h => by
    have ih:=bit_app u v h
    rw [List.cons_append]
    simp only [bitL]
    rw [ih]
theorem bit_num (n : Nat) : ∀ r j,n / 2 ^ (j + r) = 0→bitL ((List.range' j r).map fun i => n / 2 ^ i % 2) = n / 2 ^ j
  | 0,j,h => by
    rw [Nat.add_zero] at h
    rw [h]
    rfl
  | r + 1,j,h => by
    have ih:=bit_num n r (j + 1) (by rw [show j + 1 + r = j + (r + 1) by omega]; exact h)
    rw [List.range'_succ,List.map_cons]
    simp only [bitL]
    rw [ih,← half]
    obtain ⟨q,hq⟩ : ∃ q,q = n / 2 ^ j:=⟨_,rfl⟩
    rw [← hq]
    split <;> omega
theorem bit_digits (n : Nat) : bitL ((List.range (bl n)).map fun i => n / 2 ^ i % 2) = n:=by
  rw [List.range_eq_range',bit_num n (bl n) 0 (by
    rw [Nat.zero_add]
    exact Nat.eq_zero_of_not_pos (mt bl_pos.1 (Nat.lt_irrefl _)))]
  simp
theorem dig_one (c : Nat) : digs 1 c = [dg c 0]:=rfl
theorem withC_eq (c d : Nat) : withC 1 1 c d = colD [dg c 0,d]:=by
  unfold withC
  rw [dig_one]
  rfl
theorem dg_w0 {c d : Nat} (hd : d < 3) : dg (withC 1 1 c d) 0 = dg c 0:=by
  rw [withC_eq,dg_colD 0 (fun x hx => by
    simp only [List.mem_cons,List.not_mem_nil,or_false] at hx
    rcases hx with rfl | rfl
    · exact dg_lt c 0
    · exact hd) (by simp)]
  rfl
theorem lin_val {m : Int} : ∀ (cs : List Nat) (s : Int),langK (nxL 1 (sumsF [1,-m])) (accL 1) s cs = true→(bitL (cs.map (dg · 0)) : Int) - m * (bitL (cs.map (dg · 1)) : Int) = s
  | [],s,h => by
    have h : accL 1 s = true:=h
    have : s = 0:=by
      unfold accL at h
      simpa using h
    subst this
    simp [bitL]
  | c::cs,s,h => by
    rw [langK_cons] at h
    unfold nxL at h
    split at h
    · have:=lin_odd 1 (sumsF [1,-m]) cs
      unfold nxL at this
      rw [this] at h
      cases h
    · split at h
      · have:=lin_odd 1 (sumsF [1,-m]) cs
        unfold nxL at this
        rw [this] at h
        cases h
      · next ho hk =>
        have h2 : (s - sumsF [1,-m] c) % 2 = 0:=by
          have h : (s - sumsF [1,-m] c).tmod 2 = 0:=by
            by_cases h : (s - sumsF [1,-m] c).tmod 2 = 0
            · exact h
            · exact absurd ⟨rfl,h⟩ hk
          exact Int.emod_eq_zero_of_dvd (Int.dvd_of_tmod_eq_zero h)
        have ih:=lin_val (m:=m) cs ((s - sumsF [1,-m] c) / 2) (by unfold nxL; exact h)
        rw [rest_sum] at ih h2
        rw [List.map_cons,List.map_cons]
        simp only [bitL]
        obtain ⟨P,hP⟩ : ∃ P,P = m * (bitL (cs.map (dg · 1)) : Int):=⟨_,rfl⟩
        rw [← hP] at ih
        obtain ⟨B,hB⟩ : ∃ B,B = bitL (cs.map (dg · 0)):=⟨_,rfl⟩
        rw [← hB] at ih ⊢
        by_cases h0 : dg c 0 = 1
        · by_cases h1 : dg c 1 = 1
          · rw [if_pos h0,if_pos h1] at ih h2 ⊢
            have e : m * ((1 + 2 * bitL (cs.map (dg · 1)) : Nat) : Int) = m + 2 * P:=by
              rw [hP]; push_cast; rw [Int.mul_add,Int.mul_one,← Int.mul_assoc,Int.mul_comm m 2,Int.mul_assoc]
            rw [e]
            push_cast
            omega
          · rw [if_pos h0,if_neg h1] at ih h2 ⊢
            have e : m * ((0 + 2 * bitL (cs.map (dg · 1)) : Nat) : Int) = 2 * P:=by
              rw [hP]; push_cast; rw [Int.zero_add,← Int.mul_assoc,Int.mul_comm m 2,Int.mul_assoc]
            rw [e]
            push_cast
            omega
        · by_cases h1 : dg c 1 = 1
          · rw [if_neg h0,if_pos h1] at ih h2 ⊢
            have e : m * ((1 + 2 * bitL (cs.map (dg · 1)) : Nat) : Int) = m + 2 * P:=by
              rw [hP]; push_cast; rw [Int.mul_add,Int.mul_one,← Int.mul_assoc,Int.mul_comm m 2,Int.mul_assoc]
            rw [e]
            push_cast
            omega
          · rw [if_neg h0,if_neg h1] at ih h2 ⊢
            have e : m * ((0 + 2 * bitL (cs.map (dg · 1)) : Nat) : Int) = 2 * P:=by
              rw [hP]; push_cast; rw [Int.zero_add,← Int.mul_assoc,Int.mul_comm m 2,Int.mul_assoc]
            rw [e]
            push_cast
            omega
theorem zip_tape : ∀ (cs vs : List Nat),vs.length = cs.length→(∀ d∈vs,d < 3)→(zipC cs vs).map (dg · 0) = cs.map (dg · 0)
  | [],_,_,_ => rfl
  | c::cs,[],h,_ => by simp at h
  | c::cs,d::vs,h,h3 => by
    have ih:=zip_tape cs vs (by simpa using h) fun x hx => h3 x (List.mem_cons_of_mem _ hx)
    show dg (withC 1 1 c d) 0::(zipC cs vs).map (dg · 0) = _
    rw [ih,dg_w0 (h3 d List.mem_cons_self)]
    rfl
theorem zip_in : ∀ (cs vs : List Nat),In (wd 1) cs→(∀ d∈vs,d < 3)→In (wd 2) (zipC cs vs)
  | [],_,_,_ => In.nil _
  | c::cs,[],_,_ => In.nil _
  | c::cs,d::vs,h,h3 => In.cons (col_wd h.head (h3 d List.mem_cons_self)) (zip_in cs vs h.tail fun x hx => h3 x (List.mem_cons_of_mem _ hx))
theorem pads_tape {ds : List Nat} (h : ∀ d∈ds,d < 2) : (ds.map (withC 1 1 (wd 1))).map (dg · 0) = List.replicate ds.length 2:=by
  rw [List.map_map]
  refine List.eq_replicate_iff.2 ⟨by simp,fun x hx => ?_⟩
  obtain ⟨d,hd,rfl⟩:=List.mem_map.1 hx
  show dg (withC 1 1 (wd 1) d) 0 = 2
  rw [dg_w0 (by have:=h d hd; omega)]
  rfl
theorem pads_in {ds : List Nat} (h : ∀ d∈ds,d < 2) : In (wd 2) (ds.map (withC 1 1 (wd 1))):=fun x hx => by
  obtain ⟨d,hd,rfl⟩:=List.mem_map.1 hx
  exact withC_wd (t:=1) (tape:=1) (Nat.le_refl _) (by have:=h d hd; omega) (.inl (h d hd))
theorem rest_with {m r : Nat} {A S : Aut} (hm : 1≤m∧m≤9) (hr : r < m) (hA : A.Ok (wd 2)) (hE : ∀ cs,In (wd 2) cs→A.lang 0 cs = langK (nxM m) acM (1 + r * 9) cs) (hS : ∀ cs,In (wd 1) cs→S.lang 0 cs = langK (nxB A 1 1) (acB A 1 1) (startB A.acc.length 0) cs)
    {cs : List Nat} (hcs : In (wd 1) cs) : S.lang 0 cs = true↔∃ vs : List Nat,vs.length = cs.length∧(∀ d∈vs,d < 3)∧∃ ds : List Nat,(∀ d∈ds,d < 2)∧langK (nxL 1 (sumsF [1,-(m : Int)])) (accL 1) (r : Int) (zipC cs vs++ds.map (withC 1 1 (wd 1))) = true∧rl 2 (LD (List.range 2)) (zipC cs vs++ds.map (withC 1 1 (wd 1))) = true:=by
  have e2 : encM (r : Int) (some [0,0]) = 1 + r * 9:=by
    obtain ⟨e,h1,-,-,-,-,h6⟩:=dec_enc (v:=(r : Int)) (a:=0) (b:=0) (by omega) (by decide) (by decide)
    rw [h1,h6]
    omega
  have hsplit : ∀ cols,In (wd 2) cols→(A.lang 0 cols = true↔langK (nxL 1 (sumsF [1,-(m : Int)])) (accL 1) (r : Int) cols = true∧rl 2 (LD (List.range 2)) cols = true):=fun cols hc => by
    have e1:=encM_lang (m:=(m : Int)) (by omega) cols (r : Int) (some [0,0]) (.inr ⟨0,0,by decide,by decide,rfl⟩) (.inr (by omega))
    have e3 : langK (ksNx 2 [0,1]) (ksAcc 2 [0,1]) (some [0,0]) cols = rl 2 (LD (List.range 2)) cols:=ks_rl (t:=2) (S:=List.range 2) (fun k hk => List.mem_range.1 hk) cols
    rw [hE cols hc,← e2,e1,e3,Bool.and_eq_true]
  rw [hS cs hcs,set_lang hA cs _ hcs]
  constructor
  · rintro ⟨q,hq,h1,vs,h2,h3,ds,h4,h5⟩
    have hq0 : q = 0:=by
      rw [List.getD_eq_getElem?_getD,List.getElem?_eq_getElem (by rw [startB_len]; exact hq)] at h1
      simpa [startB] using h1
    subst hq0
    exact ⟨vs,h2,h3,ds,h4,(hsplit _ (In.append (zip_in cs vs hcs h3) (pads_in h4))).1 h5⟩
  · rintro ⟨vs,h2,h3,ds,h4,h5⟩
    refine ⟨0,hA.pos,?_,vs,h2,h3,ds,h4,(hsplit _ (In.append (zip_in cs vs hcs h3) (pads_in h4))).2 h5⟩
    rw [List.getD_eq_getElem?_getD,List.getElem?_eq_getElem (by rw [startB_len]; exact hA.pos)]
    simp [startB]
theorem bl_mono {a b : Nat} (h : a≤b) : bl a≤bl b:=by
  rcases Nat.lt_or_ge (bl b) (bl a) with hlt | hge
  · have h1:=(bl_pos (n:=a) (r:=bl b)).2 hlt
    have h2:=bl_pos (n:=b) (r:=bl b)
    have h3 : a / 2 ^ bl b≤b / 2 ^ bl b:=Nat.div_le_div_right h
    exact absurd (h2.1 (Nat.lt_of_lt_of_le h1 h3)) (Nat.lt_irrefl _)
  · exact hge
theorem lng_one (w : List Nat) : lngW [w] = w.length:=by simp [lngW]
theorem tape_one (n : Nat) : (colsW [wdN n]).map (dg · 0) = (List.range (bl n)).map fun i => n / 2 ^ i % 2:=by
  obtain ⟨r,e⟩:=tape_num (xs:=[n]) (k:=0) (by simp)
  have e : (colsW [wdN n]).map (dg · 0) = (List.range (bl n)).map (fun i => n / 2 ^ i % 2)++List.replicate r 2:=e
  have hl:=congrArg List.length e
  rw [List.length_map,colsW_len,lng_one,wdN_length,List.length_append,List.length_map,List.length_range,List.length_replicate] at hl
  obtain rfl : r = 0:=by omega
  simpa using e
theorem dot_twoZ (a b : Int) (x y : Nat) : dotN [a,b] [x,y] 0 2 = a * (x : Int) + b * (y : Int):=by simp [dotN]
theorem zip_cols {n Q : Nat} (hQ : bl Q≤bl n) : zipC (colsW [wdN n]) ((List.range (bl n)).map fun i => dgW i (wdN Q)) = colsW [wdN n,wdN Q]:=by
  have l1 : lngW [wdN n] = bl n:=by rw [lng_one,wdN_length]
  have l2 : lngW [wdN n,wdN Q] = bl n:=by
    simp only [lngW,List.foldl_cons,List.foldl_nil,wdN_length]
    omega
  unfold zipC colsW
  rw [l1,l2]
  apply List.ext_getElem
  · simp
  intro i h1 h2
  rw [List.getElem_zipWith,List.getElem_map,List.getElem_map,List.getElem_map,List.getElem_range]
  have e : dg (colW [wdN n] i) 0 = dgW i (wdN n):=dg_colW (xs:=[n]) (k:=0) (by simp) i
  rw [withC_eq,e]
  rfl
section
variable {m r : Nat} {A S : Aut} (hm : 1≤m∧m≤9) (hr : r < m) (hA : A.Ok (wd 2)) (hE : ∀ cs,In (wd 2) cs→A.lang 0 cs = langK (nxM m) acM (1 + r * 9) cs) (hS : ∀ cs,In (wd 1) cs→S.lang 0 cs = langK (nxB A 1 1) (acB A 1 1) (startB A.acc.length 0) cs)
include hm hr hA hE hS
theorem rest_num (n : Nat) : S.lang 0 (colsW [wdN n]) = decide (n % m = r):=by
  have hcs : In (wd 1) (colsW [wdN n]):=cols_in (ws:=[wdN n]) (by simpa using wdN_w n)
  rw [Bool.eq_iff_iff,rest_with hm hr hA hE hS hcs,decide_eq_true_iff]
  constructor
  · rintro ⟨vs,h2,h3,ds,h4,h5,-⟩
    have hv:=lin_val _ _ h5
    have h0 : (zipC (colsW [wdN n]) vs++ds.map (withC 1 1 (wd 1))).map (dg · 0) = ((List.range (bl n)).map fun i => n / 2 ^ i % 2)++List.replicate ds.length 2:=by
      rw [List.map_append,zip_tape _ _ h2 h3,pads_tape h4,tape_one]
    rw [h0,bit_app _ _ (fun d hd => (List.mem_replicate.1 hd).2),bit_digits] at hv
    obtain ⟨Q,hQ⟩ : ∃ Q,Q = bitL ((zipC (colsW [wdN n]) vs++ds.map (withC 1 1 (wd 1))).map (dg · 1)):=⟨_,rfl⟩
    rw [← hQ] at hv
    have hn : n = m * Q + r:=by
      have : ((m * Q : Nat) : Int) = (m : Int) * (Q : Int):=by push_cast; rfl
      omega
    rw [hn,Nat.mul_add_mod,Nat.mod_eq_of_lt hr]
  · intro h
    have hQ : bl (n / m)≤bl n:=bl_mono (Nat.div_le_self n m)
    refine ⟨(List.range (bl n)).map fun i => dgW i (wdN (n / m)),?_,fun d hd => ?_,[],by simp,?_⟩
    · rw [List.length_map,List.length_range,colsW_len,lng_one,wdN_length]
    · obtain ⟨i,_,rfl⟩:=List.mem_map.1 hd
      exact dgW_lt (wdN_w _) i
    · rw [List.map_nil,List.append_nil,zip_cols hQ]
      have hT : Terms [1,-(m : Int)]:=rest_terms (by omega)
      have hln:=lin_nums 1 (.inl rfl) [1,-(m : Int)] hT [n,n / m] rfl (lngW ([n,n / m].map wdN)) 0 (r : Int) (by omega) (by omega)
      rw [← List.range_eq_range'] at hln
      refine ⟨?_,?_⟩
      · refine Eq.trans hln ?_
        show sumOk 1 (dotN [1,-(m : Int)] [n,n / m] 0 2) (r : Int) = true
        have h1:=Nat.div_add_mod n m
        obtain ⟨Q,hQ⟩ : ∃ Q,Q = n / m:=⟨_,rfl⟩
        rw [← hQ] at h1 ⊢
        have hd : dotN [1,-(m : Int)] [n,Q] 0 2 = (n : Int) - ((m * Q : Nat) : Int):=by
          rw [dot_twoZ,Int.one_mul,Int.neg_mul,← Int.sub_eq_add_neg]
          push_cast
          rfl
        rw [hd]
        unfold sumOk
        rw [if_pos rfl,decide_eq_true_iff]
        omega
      · unfold rl
        have h1:=right_nums [n,n / m]
        have h2:=LD_nums [n,n / m]
        have h1 : rightF 2 0 (colsW [wdN n,wdN (n / m)]) = true:=h1
        have h2 : LD (List.range 2) (colsW [wdN n,wdN (n / m)]) = true:=h2
        rw [h1,h2]
        rfl
theorem rest_bad (n : Nat) : S.lang 0 (colsW [wdN n++[97]]) = false:=by
  have hw : IsW (wdN n++[97]):=fun b hb => by
    rcases List.mem_append.1 hb with h | h
    · exact wdN_w n b h
    · obtain rfl : b = 97:=by simpa using h
      exact .inl rfl
  have hcs : In (wd 1) (colsW [wdN n++[97]]):=cols_in (ws:=[wdN n++[97]]) (by simpa using hw)
  rw [Bool.eq_false_iff]
  intro hh
  obtain ⟨vs,h2,h3,ds,h4,-,h6⟩:=(rest_with hm hr hA hE hS hcs).1 hh
  have hll : lngW [wdN n++[97]] = bl n + 1:=by rw [lng_one,List.length_append,wdN_length]; rfl
  have hdg : ∀ i,dgW i (wdN n++[97]) = if i < bl n then n / 2 ^ i % 2 else if i = bl n then 0 else 2:=fun i => by
    by_cases h1 : i < bl n
    · rw [if_pos h1]
      have h:=dgW_num n i
      rw [if_pos h1] at h
      rw [← h]
      unfold dgW
      rw [List.length_append,wdN_length,if_pos (by simp; omega),if_pos h1,List.getD_eq_getElem?_getD,List.getD_eq_getElem?_getD,List.getElem?_append_left (by rw [wdN_length]; exact h1)]
    · rw [if_neg h1]
      unfold dgW
      rw [List.length_append,wdN_length]
      by_cases h2 : i = bl n
      · rw [if_pos h2,if_pos (by simp; omega),List.getD_eq_getElem?_getD,List.getElem?_append_right (by rw [wdN_length]; omega),wdN_length,h2]
        simp
      · rw [if_neg h2,if_neg (by simp; omega)]
  have ht : (colsW [wdN n++[97]]).map (dg · 0) = ((List.range (bl n)).map fun i => n / 2 ^ i % 2)++[0]:=by
    unfold colsW
    rw [hll,List.range_succ,List.map_append,List.map_append,List.map_map]
    have e : ∀ i,dg (colW [wdN n++[97]] i) 0 = dgW i (wdN n++[97]):=fun i => by
      unfold colW
      rw [dg_colD 0 (col_dig (by simpa using hw) i) (by simp)]
      rfl
    congr 1
    · refine List.map_congr_left fun i hi => ?_
      have hi:=List.mem_range.1 hi
      show dg (colW [wdN n++[97]] i) 0 = _
      rw [e,hdg,if_pos hi]
    · show [dg (colW [wdN n++[97]] (bl n)) 0] = [0]
      rw [e,hdg,if_neg (Nat.lt_irrefl _),if_pos rfl]
  unfold rl LD at h6
  rw [Bool.and_eq_true,List.all_eq_true] at h6
  have h7:=h6.2 0 (by simp)
  unfold dT lettersT at h7
  rw [List.map_append,zip_tape _ _ h2 h3,pads_tape h4,ht,List.filter_append,List.filter_append] at h7
  have e1 : ((List.range (bl n)).map (fun i => n / 2 ^ i % 2)).filter (fun d => decide (d≠2)) = (List.range (bl n)).map (fun i => n / 2 ^ i % 2):=List.filter_eq_self.2 fun d hd => by
    obtain ⟨i,_,rfl⟩:=List.mem_map.1 hd
    simp; omega
  have e2 : (List.replicate ds.length 2).filter (fun d => decide (d≠2)) = []:=List.filter_eq_nil_iff.2 fun d hd => by simp [(List.mem_replicate.1 hd).2]
  rw [e1,e2,List.append_nil] at h7
  simp at h7
end
theorem lessN2_some : ∃ B,lessN2 = (some B,0):=by
  have hU:=less_closed
  obtain ⟨hX,hXl,-⟩:=linX_ok (terms:=[1,-1]) hU
  obtain ⟨X,hXX⟩ : ∃ X,X = linX 2 (-1) [1,-1] [-1,0]:=⟨_,rfl⟩
  rw [← hXX] at hX hXl
  have hX : X.Ok (wd 2):=hX
  have hXl : X.acc.length≤2:=hXl
  obtain ⟨hD,hDl⟩:=LD_small (t:=2) (by decide) (S:=List.range 2) (fun k hk => List.mem_range.1 hk)
  obtain ⟨D,hDD⟩ : ∃ D,D = TA 2 (LD (List.range 2)):=⟨_,rfl⟩
  have hT:=TA_len2 (t:=2) hX hX.pos
  have e1 : told (TA 2 (X.lang 0)) = (some (TA 2 (X.lang 0)),0):=by
    unfold told
    rw [if_neg (by omega)]
  have e2 : lessN2 = joinN 2 (fun a b => a && b) ((TA 2 (X.lang 0)).lang 0) ((TA 2 (LD (List.range 2))).lang 0):=by
    unfold lessN2 linN
    have : told (TA ([1,-1] : List Int).length ((linX 2 (-1) [1,-1] [-1,0]).lang 0)) = (some (TA 2 (X.lang 0)),0):=by rw [← hXX]; exact e1
    rw [this]
    rfl
  have hDD2 : TA 2 (D.lang 0) = D:=by
    rw [hDD]
    exact TA_congr fun cs hc hr => by
      rw [hD.lang hc]
      simp [rl,hr]
  rw [← hDD] at e2 hD hDl
  have hp:=prodA_ok (op:=fun a b => a && b) hX hD.ok
  have hpl : (prodA (wd 2) X D (fun a b => a && b)).acc.length = X.acc.length * D.acc.length:=prodA_len
  have hle : X.acc.length * D.acc.length≤2 * 28:=Nat.mul_le_mul hXl hDl
  have hs:=(TA_small (t:=2) hp hp.pos (L:=fun cs => X.lang 0 cs && D.lang 0 cs) fun cs hc => by
    have:=prodA_lang (op:=fun a b => a && b) hX hD.ok cs 0 0 hX.pos hD.ok.pos hc
    rw [Nat.zero_mul,Nat.zero_add] at this
    rw [this]
    show _ = (rightF 2 0 cs && (X.lang 0 cs && D.lang 0 cs))
    rw [show D.lang 0 cs = (rightF 2 0 cs && LD (List.range 2) cs) from hD.lang hc]
    cases rightF 2 0 cs <;> simp).2
  rw [e2,joinN_TA (by decide) hX hX.pos]
  unfold joinN
  have h7 : (TA 2 (X.lang 0)).acc.length * (TA 2 (D.lang 0)).acc.length≤9 * 28:=Nat.mul_le_mul (by omega) (by rw [hDD2]; exact hDl)
  rw [if_neg (by omega)]
  exact ⟨TA 2 (fun cs => X.lang 0 cs && D.lang 0 cs),if_neg (show ¬ 150 < (TA 2 (fun cs => X.lang 0 cs && D.lang 0 cs)).acc.length from by rw [hpl] at hs; omega)⟩
theorem dom_num (n : Nat) : (TA 1 domL).Ok (wd 1)∧(TA 1 domL).acc.length≤150∧(TA 1 domL).lang 0 (colsW [wdN n]) = true:=by
  obtain ⟨h1,h2⟩:=LD_small (t:=1) (by decide) (S:=[0]) (fun k hk => by simp at hk; omega)
  rw [LD_dom]
  refine ⟨h1.ok,by omega,?_⟩
  have hcs : In (wd 1) (colsW [wdN n]):=cols_in (ws:=[wdN n]) (by simpa using wdN_w n)
  rw [h1.lang hcs]
  unfold rl
  rw [right_one hcs]
  have : LD [0] (colsW [wdN n]) = true:=LD_nums [n]
  rw [this]
  rfl
theorem numW_wd (n : Nat) : numW (wdN n) = n:=by
  have key : ∀ r j,n / 2 ^ (j + r) = 0→numW ((List.range' j r).map (ltr n)) = n / 2 ^ j:=by
    intro r
    induction r with
    | zero => intro j h; rw [Nat.add_zero] at h; rw [h]; rfl
    | succ r ih =>
      intro j h
      have ih:=ih (j + 1) (by rw [show j + 1 + r = j + (r + 1) by omega]; exact h)
      rw [List.range'_succ,List.map_cons]
      show 2 * numW ((List.range' (j + 1) r).map (ltr n)) + (ltr n j - 97) = _
      rw [ih,← half]
      unfold ltr
      omega
  unfold wdN wordL
  rw [List.range_eq_range',key (bl n) 0 (by
    rw [Nat.zero_add]
    exact Nat.eq_zero_of_not_pos (mt bl_pos.1 (Nat.lt_irrefl _)))]
  simp
theorem wd_last (n : Nat) : wdN n = []∨∃ u,wdN n = u++[98]:=by
  cases hb : bl n with
  | zero =>
    left
    unfold wdN wordL
    rw [hb]
    rfl
  | succ k =>
    right
    refine ⟨(List.range k).map (ltr n),?_⟩
    unfold wdN wordL
    rw [hb,List.range_succ,List.map_append]
    congr 1
    show [ltr n k] = [98]
    unfold ltr
    rw [top_bit hb]
theorem x_suffix1 (w : List Nat) (hw : w = []∨∃ u,w = u++[98]) (hl : w.length≤60) (H : BH) : Runs (gam base) 109 [encW w,.str ⟨#[97]⟩] H (.bool false) H:=by
  refine runs_of (fn:=ir109) rfl ?_
  have sz1 : (⟨#[97]⟩ : ByteArray).size = 1:=rfl
  rcases hw with rfl | ⟨u,rfl⟩
  · have sz0 : (strL []).size = 0:=rfl
    simp [ir109,sz0,sz1]
  · have hs : (strL (u++[98])).size = u.length + 1:=by rw [strL_size]; simp
    have hul : u.length≤60:=by simp at hl; omega
    have ws : IntKind.i64.wrap (u.length : Int) = (u.length : Int):=w64 (by omega) (by omega)
    have h1 : (1 : Int)≤(u.length : Int) + 1:=by omega
    have hx : (strL (u++[98])).extract u.length (u.length + 1) = strL [98]:=by
      apply ByteArray.ext
      rw [ByteArray.data_extract]
      simp [strL]
    have hne : ¬ (strL [98]).toList = [97]:=by
      have : (strL [98]).toList = [98]:=by rw [ByteArray.toList_eq]; rfl
      rw [this]
      decide
    simp [ir109,hs,ws,hx,sz1,h1,hne]
theorem x_suffix (w : List Nat) (hw : w = []∨∃ u,w = u++[98]) (hl : w.length≤60) (H : BH) : Runs (gam base) 64 [encW w,.str ⟨#[97]⟩] H (.bool false) H:=by
  refine runs_of (fn:=ir64) rfl ?_
  simp [ir64]
  refine callP (x_suffix1 w hw hl H) ?_
  simp
theorem i_WordNumber (n : Nat) (hn : n≤1000000000) (H : BH) : FnDoes (gam base) 22 [encW (wdN n)] H fun v _ => v = .tup [encN n,encN 0]:=by
  refine FnDoes.of (fn:=ir22) rfl ?_
  have hl:=wdN_len hn
  simp [ir22]
  refine (i_wordOk (base:=base) (wdN n) H (wdN_w n) (by omega)).step fun v K k hv => ?_
  subst hv
  simp
  refine callP (x_suffix (base:=base) (wdN n) (wd_last n) (by omega) K) ?_
  simp
  have hw:=i_wordNumber (base:=base) (wdN n) K (wdN_w n) (by omega)
  rw [numW_wd] at hw
  refine callP hw ?_
  simp
  refine callP (i_isNumber _ K) ?_
  have : inB (n : Int) 0 1000000000 = true:=by simp [inB]; omega
  rw [this]
  simp
  exact k
def Num1 (H : BH) (v w : BV) (e : Env) (K : BH) : Prop:=∃ x y : Nat,x≤65535∧y≤65535∧Has e [(0,v),(1,w),(5,encN x),(6,encN y),(7,encW (wdN x)),(9,encW (wdN y)),(11,encW (wdN (x + y)))]∧H.Keeps K
theorem num_p1 (bs cs : List Int) (v w : BV) (H : BH) {ty ty2 : Nat} (h : Rd H ty v (bs.map encY)) (k : Rd H ty2 w (cs.map encY)) (hb : ∀ b∈bs,0≤b∧b < 256) (hc : ∀ b∈cs,0≤b∧b < 256) (n1 : bs.length≤3000) (n2 : cs.length≤3000) (Q : Post) (e : Env) (e0 : e 0 = v) (e1 : e 1 = w) :
    wpC base (Runs (gam base)) ((ir5.body.tl 2).hd 7) (Post.then (Num1 H v w) Q) e H:=by
  obtain ⟨Y,hY⟩ : ∃ Y : Env→BH→Prop,Y = Num1 H v w:=⟨_,rfl⟩
  rw [← hY]
  obtain ⟨a0,ha0,c0⟩:=l_at (base:=base) bs v 0 256 H h hb n1 (by omega)
  obtain ⟨a1,ha1,c1⟩:=l_at (base:=base) bs v 1 256 H h hb n1 (by omega)
  obtain ⟨b0,hb0,d0⟩:=l_at (base:=base) cs w 0 256 H k hc n2 (by omega)
  obtain ⟨b1,hb1,d1⟩:=l_at (base:=base) cs w 1 256 H k hc n2 (by omega)
  obtain ⟨p,hp⟩ : ∃ p : Nat,p = a0 * 256:=⟨_,rfl⟩
  obtain ⟨q,hq⟩ : ∃ q : Nat,q = b0 * 256:=⟨_,rfl⟩
  obtain ⟨x,hx⟩ : ∃ x : Nat,x = p + a1:=⟨_,rfl⟩
  obtain ⟨y,hy⟩ : ∃ y : Nat,y = q + b1:=⟨_,rfl⟩
  obtain ⟨z,hz⟩ : ∃ z : Nat,z = x + y:=⟨_,rfl⟩
  have w1 : IntKind.i64.wrap ((a0 : Int) * 256) = (p : Int):=by rw [w64 (by omega) (by omega)]; omega
  have w2 : IntKind.i64.wrap ((p : Int) + (a1 : Int)) = (x : Int):=by rw [w64 (by omega) (by omega)]; omega
  have w3 : IntKind.i64.wrap ((b0 : Int) * 256) = (q : Int):=by rw [w64 (by omega) (by omega)]; omega
  have w4 : IntKind.i64.wrap ((q : Int) + (b1 : Int)) = (y : Int):=by rw [w64 (by omega) (by omega)]; omega
  have w5 : IntKind.i64.wrap ((x : Int) + (y : Int)) = (z : Int):=by rw [w64 (by omega) (by omega)]; omega
  simp [ir5,BCode.hd,BCode.tl,e0,e1]
  refine callP c0 ?_
  simp [w1,e0,e1]
  refine callP c1 ?_
  simp [w2,e0,e1]
  refine callP d0 ?_
  simp [w3,e0,e1]
  refine callP d1 ?_
  simp [w4,e0,e1]
  refine (i_NumberWord (base:=base) x (by omega) H).step fun v1 K1 k1 hv => ?_
  subst hv
  simp
  refine (i_NumberWord (base:=base) y (by omega) K1).step fun v2 K2 k2 hv => ?_
  subst hv
  simp [w5]
  refine (i_NumberWord (base:=base) z (by omega) K2).step fun v3 K3 k3 hv => ?_
  subst hv
  simp
  refine (i_WordNumber (base:=base) x (by omega) K3).step fun v4 K4 k4 hv => ?_
  subst hv
  have hfin : ∀ e',Has e' [(0,v),(1,w),(5,encN x),(6,encN y),(7,encW (wdN x)),(9,encW (wdN y)),(11,encW (wdN z))]→Y e' K4:=fun e' he => by
    rw [hY]
    refine ⟨x,y,by omega,by omega,?_,k1.trans (k2.trans (k3.trans k4))⟩
    rw [← hz]
    exact he
  by_cases hl : (wdN y).length < (wdN x).length
  · have hl' : ((wdN y).length : Int) < ((wdN x).length : Int):=by omega
    have hxy : ¬ (x : Int)≤(y : Int):=fun h => by
      have:=bl_mono (a:=x) (b:=y) (by omega)
      rw [wdN_length,wdN_length] at hl
      omega
    simp [strL_size,hl,hl',hxy]
    refine hfin _ ?_
    simp [Has,e0,e1]
  · have hl' : ¬ ((wdN y).length : Int) < ((wdN x).length : Int):=by omega
    simp [strL_size,hl,hl']
    refine hfin _ ?_
    simp [Has,e0,e1]
def Num2 (H : BH) (v w : BV) (e : Env) (K : BH) : Prop:=∃ x : Nat,x≤65535∧Has e [(0,v),(1,w),(5,encN x),(7,encW (wdN x))]∧H.Keeps K
theorem RelR.some {H K : BH} {t c : Nat} {A : Aut} {v : BV} (h : RelR base H t (some A,0) (.tup [v,encN c]) K) : OwnRel base H K t 0 A v:=by
  obtain ⟨m,e,ho⟩:=h
  simp only [BV.tup.injEq,List.cons.injEq,and_true] at e
  rw [e.1]
  exact ho
theorem add_num {B : Aut} (hB : addN3 = (some B,0)) (x y z : Nat) : B.lang 0 (colsW [wdN x,wdN y,wdN z]) = decide (x + y = z):=by
  have h:=linN_holds (kind:=1) (.inl rfl) add_terms add_closed (by omega) hB [x,y,z] rfl
  have h : B.lang 0 (colsW [wdN x,wdN y,wdN z]) = sumOk 1 (dotN [1,1,-1] [x,y,z] 0 3) 0:=h
  rw [h]
  have hd : dotN [1,1,-1] [x,y,z] 0 3 = (x : Int) + (y : Int) - (z : Int):=by
    simp [dotN]
    omega
  rw [hd]
  unfold sumOk
  rw [if_pos rfl,decide_eq_decide]
  omega
theorem less_num {B : Aut} (hB : lessN2 = (some B,0)) (x y : Nat) : B.lang 0 (colsW [wdN x,wdN y]) = decide ((x : Int) < (y : Int)):=by
  have h:=linN_holds (kind:=2) (.inr rfl) less_terms less_closed (by omega) hB [x,y] rfl
  have h : B.lang 0 (colsW [wdN x,wdN y]) = sumOk 2 (dotN [1,-1] [x,y] 0 2) (-1):=h
  rw [h]
  have hd : dotN [1,-1] [x,y] 0 2 = (x : Int) - (y : Int):=by
    simp [dotN]
    omega
  rw [hd]
  unfold sumOk
  rw [if_neg (by decide),decide_eq_decide]
  omega
theorem three_w (a b c : Nat) (h1 : (wdN a).length≤30) (h2 : (wdN b).length≤30) (h3 : (wdN c).length≤30) : ∀ u∈[wdN a,wdN b,wdN c],IsW u∧u.length≤40:=fun u hu => by
  simp only [List.mem_cons,List.not_mem_nil,or_false] at hu
  rcases hu with rfl | rfl | rfl
  · exact ⟨wdN_w a,by omega⟩
  · exact ⟨wdN_w b,by omega⟩
  · exact ⟨wdN_w c,by omega⟩
def Num2a (H : BH) (v w : BV) (x y : Nat) (e : Env) (K : BH) : Prop:=Has e [(0,v),(1,w),(5,encN x),(6,encN y),(7,encW (wdN x)),(9,encW (wdN y)),(15,.bool true),(16,encN 0),(18,encN 0),(19,.bool false),(20,encN 0)]∧H.Keeps K
def Num2b (H : BH) (v w : BV) (x y : Nat) (e : Env) (K : BH) : Prop:=Has e [(0,v),(1,w),(5,encN x),(6,encN y),(7,encW (wdN x)),(15,.bool true),(16,encN 0),(18,encN 0),(19,.bool false),(20,encN 0),(21,.bool (decide (x < y))),(22,encN 0),(23,.bool true),(24,encN 0)]∧H.Keeps K
theorem num_p2a (v w : BV) (H : BH) (x y : Nat) (hx : x≤65535) (hy : y≤65535) (Q : Post) (e : Env) (K : BH) (hk : H.Keeps K) (he : Has e [(0,v),(1,w),(5,encN x),(6,encN y),(7,encW (wdN x)),(9,encW (wdN y)),(11,encW (wdN (x + y)))]) :
    wpC base (Runs (gam base)) (((ir5.body.tl 2).tl 7).hd 3) (Post.then (Num2a H v w x y) Q) e K:=by
  obtain ⟨Y,hY⟩ : ∃ Y : Env→BH→Prop,Y = Num2a H v w x y:=⟨_,rfl⟩
  rw [← hY]
  obtain ⟨e0,e1,e5,e6,e7,e9,e11,-⟩:=he
  simp only [] at e0 e1 e5 e6 e7 e9 e11
  obtain ⟨z,hz⟩ : ∃ z : Nat,z = x + y:=⟨_,rfl⟩
  rw [← hz] at e11
  have w5 : IntKind.i64.wrap ((x : Int) + (y : Int)) = (z : Int):=by rw [w64 (by omega) (by omega)]; omega
  have w6 : IntKind.i64.wrap ((z : Int) + 1) = ((z + 1 : Nat) : Int):=by rw [w64 (by omega) (by omega)]; omega
  obtain ⟨z1,hz1⟩ : ∃ z1 : Nat,z1 = z + 1:=⟨_,rfl⟩
  rw [← hz1] at w6
  have lx:=wdN_len (n:=x) (by omega)
  have ly:=wdN_len (n:=y) (by omega)
  have lz:=wdN_len (n:=z) (by omega)
  have lz1:=wdN_len (n:=z1) (by omega)
  obtain ⟨B,hB⟩:=addN3_some
  have gB : GoodC 3 addN3:=linN_good (terms:=[1,1,-1]) (by decide) add_closed
  have ia:=fun H => i_AddRelation (base:=base) H
  have an:=fun x y z => add_num hB x y z
  rw [hB] at gB ia
  simp [ir5,BCode.hd,BCode.tl]
  refine (ia K).step fun m1 K1 k1 hr => ?_
  have hr1:=hr.some.rd
  simp [e7,e9,e11]
  intro n1 b1 f1
  have o1:=(Own.start (base:=base) (H:=K1)).new f1 b1 (s:=.arr 9 [encW (wdN x),encW (wdN y),encW (wdN z)])
  have hs1 : Rd _ 9 (.sl n1 0 3) (([wdN x,wdN y,wdN z] : List (List Nat)).map encW):=o1.rd 0 rfl rfl
  simp [make_of f1 b1]
  refine (i_Holds (base:=base) 3 0 (by decide) (by decide) B _ _ _ _ (hr1.keeps o1.keeps) gB.2.1 gB.2.1.pos gB.2.2 hs1 (three_w x y z lx ly lz) rfl).step fun v2 K2 k2 hv => ?_
  rw [an x y z,hz,decide_eq_true rfl] at hv
  subst hv
  simp [e5,e6,w5,w6]
  refine (i_NumberWord (base:=base) z1 (by omega) K2).step fun v3 K3 k3 hv => ?_
  subst hv
  simp
  refine (ia K3).step fun m4 K4 k4 hr => ?_
  have hr4:=hr.some.rd
  simp [e7,e9]
  intro n4 b4 f4
  have o4:=(Own.start (base:=base) (H:=K4)).new f4 b4 (s:=.arr 9 [encW (wdN x),encW (wdN y),encW (wdN z1)])
  have hs4 : Rd _ 9 (.sl n4 0 3) (([wdN x,wdN y,wdN z1] : List (List Nat)).map encW):=o4.rd 0 rfl rfl
  simp [make_of f4 b4]
  refine (i_Holds (base:=base) 3 0 (by decide) (by decide) B _ _ _ _ (hr4.keeps o4.keeps) gB.2.1 gB.2.1.pos gB.2.2 hs4 (three_w x y z1 lx ly lz1) rfl).step fun v5 K5 k5 hv => ?_
  rw [an x y z1,decide_eq_false (by omega)] at hv
  subst hv
  simp
  rw [hY]
  exact ⟨by simp [Has,e0,e1,e5,e6,e7,e9],hk.trans (k1.trans (o1.keeps.trans (k2.trans (k3.trans (k4.trans (o4.keeps.trans k5))))))⟩
theorem num_p2b (v w : BV) (H : BH) (x y : Nat) (hx : x≤65535) (hy : y≤65535) (Q : Post) (e : Env) (K : BH) (hh : Num2a H v w x y e K) :
    wpC base (Runs (gam base)) ((((ir5.body.tl 2).tl 7).tl 3).hd 2) (Post.then (Num2b H v w x y) Q) e K:=by
  obtain ⟨Y,hY⟩ : ∃ Y : Env→BH→Prop,Y = Num2b H v w x y:=⟨_,rfl⟩
  rw [← hY]
  obtain ⟨⟨e0,e1,e5,e6,e7,e9,e15,e16,e18,e19,e20,-⟩,hk⟩:=hh
  simp only [] at e0 e1 e5 e6 e7 e9 e15 e16 e18 e19 e20
  have lx:=wdN_len (n:=x) (by omega)
  have ly:=wdN_len (n:=y) (by omega)
  obtain ⟨B2,hB2⟩:=lessN2_some
  have gB2 : GoodC 2 lessN2:=linN_good (terms:=[1,-1]) (by decide) less_closed
  have il:=fun H => i_LessNumbers (base:=base) H
  have ln:=fun x y => less_num hB2 x y
  rw [hB2] at gB2 il
  obtain ⟨dOk,dl,dlang⟩:=dom_num x
  simp [ir5,BCode.hd,BCode.tl]
  refine (il K).step fun m6 K6 k6 hr => ?_
  have hr6:=hr.some.rd
  simp [e7,e9]
  intro n6 b6 f6
  have o6:=(Own.start (base:=base) (H:=K6)).new f6 b6 (s:=.arr 9 [encW (wdN x),encW (wdN y)])
  have hs6 : Rd _ 9 (.sl n6 0 2) (([wdN x,wdN y] : List (List Nat)).map encW):=o6.rd 0 rfl rfl
  simp [make_of f6 b6]
  refine (i_Holds (base:=base) 2 0 (by decide) (by decide) B2 _ _ _ _ (hr6.keeps o6.keeps) gB2.2.1 gB2.2.1.pos gB2.2.2 hs6 (fun u hu => by
    simp only [List.mem_cons,List.not_mem_nil,or_false] at hu
    rcases hu with rfl | rfl
    · exact ⟨wdN_w x,by omega⟩
    · exact ⟨wdN_w y,by omega⟩) rfl).step fun v7 K7 k7 hv => ?_
  rw [ln x y] at hv
  subst hv
  simp
  refine (i_domain (base:=base) K7).step fun m8 K8 k8 hr => ?_
  have hr8:=hr.rd
  simp [e7]
  intro n8 b8 f8
  have o8:=(Own.start (base:=base) (H:=K8)).new f8 b8 (s:=.arr 9 [encW (wdN x)])
  have hs8 : Rd _ 9 (.sl n8 0 1) (([wdN x] : List (List Nat)).map encW):=o8.rd 0 rfl rfl
  simp [make_of f8 b8]
  refine (i_Holds (base:=base) 1 0 (by decide) (by decide) (TA 1 domL) _ _ _ _ (hr8.keeps o8.keeps) dOk dOk.pos dl hs8 (fun u hu => by
    obtain rfl : u = wdN x:=by simpa using hu
    exact ⟨wdN_w x,by omega⟩) rfl).step fun v9 K9 k9 hv => ?_
  rw [dlang] at hv
  subst hv
  simp
  rw [hY]
  exact ⟨by simp [Has,e0,e1,e5,e6,e7,e15,e16,e18,e19,e20],hk.trans (k6.trans (o6.keeps.trans (k7.trans (k8.trans (o8.keeps.trans k9)))))⟩
theorem num_p2c (v w : BV) (H : BH) (x y : Nat) (hx : x≤65535) (Q : Post) (e : Env) (K : BH) (hh : Num2b H v w x y e K) :
    wpC base (Runs (gam base)) ((((ir5.body.tl 2).tl 7).tl 5).hd 1) (Post.then (Num2 H v w) Q) e K:=by
  obtain ⟨Y,hY⟩ : ∃ Y : Env→BH→Prop,Y = Num2 H v w:=⟨_,rfl⟩
  rw [← hY]
  obtain ⟨⟨e0,e1,e5,e6,e7,e15,e16,e18,e19,e20,e21,e22,e23,e24,-⟩,hk⟩:=hh
  simp only [] at e0 e1 e5 e6 e7 e15 e16 e18 e19 e20 e21 e22 e23 e24
  have hfin : ∀ e',Has e' [(0,v),(1,w),(5,encN x),(7,encW (wdN x))]→Y e' K:=fun e' he => by
    rw [hY]
    exact ⟨x,hx,he,hk⟩
  by_cases hlt : x < y
  · simp [ir5,BCode.hd,BCode.tl,e0,e1,e5,e6,e7,e15,e16,e18,e19,e20,e21,e22,e23,e24,hlt]
    refine hfin _ ?_
    simp [Has,e0,e1,e5,e7]
  · simp [ir5,BCode.hd,BCode.tl,e0,e1,e5,e6,e7,e15,e16,e18,e19,e20,e21,e22,e23,e24,hlt]
    refine hfin _ ?_
    simp [Has,e0,e1,e5,e7]
theorem law_Numbers (bs cs : List Int) (v w : BV) (H : BH) {ty ty2 : Nat} (h : Rd H ty v (bs.map encY)) (k : Rd H ty2 w (cs.map encY)) (hb : ∀ b∈bs,0≤b∧b < 256) (hc : ∀ b∈cs,0≤b∧b < 256) :
    FnDoes (gam base) 5 [v,w] H fun r _ => r = .bool true:=by
  refine FnDoes.of (fn:=ir5) rfl ?_
  obtain ⟨b0,r0,hlen⟩:=l_long (base:=base) bs cs v w H h k
  refine wpC_part 2 (fun e K => e 0 = v∧e 1 = w∧K = H∧bs.length≤3000∧cs.length≤3000) ?_ fun e K hh => ?_
  · simp [ir5,BCode.hd]
    refine callP r0 ?_
    cases b0
    case true =>
      simp [ir5]
      exact BH.Keeps.refl _
    case false =>
      simp
      exact hlen rfl
  obtain ⟨e0,e1,rfl,n1,n2⟩:=hh
  refine wpC_part 7 (Num1 K v w) (num_p1 bs cs v w K h k hb hc n1 n2 _ e e0 e1) fun e K1 hh => ?_
  obtain ⟨x,y,hx,hy,he,hk⟩:=hh
  refine wpC_part 3 (Num2a K v w x y) (num_p2a v w K x y hx hy _ e K1 hk he) fun e K1 hh => ?_
  refine wpC_part 2 (Num2b K v w x y) (num_p2b v w K x y hx hy _ e K1 hh) fun e K1 hh => ?_
  refine wpC_part 1 (Num2 K v w) (num_p2c v w K x y hx _ e K1 hh) fun e K2 hh => ?_
  clear hx hy he hk e0 e1
  obtain ⟨x,hx,⟨e0,e1,e5,e7,-⟩,hk⟩:=hh
  simp only [] at e0 e1 e5 e7
  obtain ⟨m0,hm0,c0⟩:=l_at (base:=base) cs w 2 9 K2 (k.keeps hk) hc n2 (by omega)
  obtain ⟨m,hm⟩ : ∃ m : Nat,m = 1 + m0:=⟨_,rfl⟩
  have wm : IntKind.i64.wrap (1 + (m0 : Int)) = (m : Int):=by rw [w64 (by omega) (by omega)]; omega
  obtain ⟨r,hr,c1⟩:=l_at (base:=base) bs v 2 m K2 (h.keeps hk) hb n1 (by omega)
  obtain ⟨l,hl⟩ : ∃ l : Nat,l = 1000:=⟨_,rfl⟩
  obtain ⟨A,S,hS,hA,hE,hAok,hSl⟩:=rest_some l m r hl (by omega) hr
  have hnum:=rest_num (by omega) hr hAok hE hSl x
  have hbad:=rest_bad (by omega) hr hAok hE hSl x
  have gS : GoodC 1 (restN l (m : Int) (r : Int)):=restN_good l m r
  have hi:=i_RestSet (base:=base) l hl (m : Int) (r : Int) K2
  rw [hS] at gS hi
  have lx:=wdN_len (n:=x) (by omega)
  have hm1 : ¬ m = 0:=by omega
  have hmod : (x : Int).tmod (m : Int) = ((x % m : Nat) : Int):=tmodN x m
  have hcat : strL (wdN x)++⟨#[97]⟩ = strL (wdN x++[97]):=strL_snoc (wdN x) 97
  simp [ir5,BCode.tl,e1]
  refine callP c0 ?_
  simp [wm,e0]
  refine callP c1 ?_
  simp
  refine hi.step fun v1 K3 k3 hr1 => ?_
  obtain ⟨mm,rfl,ho⟩:=hr1
  obtain ⟨u,xx,rfl,u1,x1⟩:=ho.cells
  have ho:=ho.rd
  simp [u1,x1]
  intro n27 b27 f27
  obtain ⟨K4,g4,k4,r4,-,-⟩:=lay f27 b27 (a:=encN 1) (b:=encN 0) (c:=u) (d:=xx) (by simp [u1,x1])
  simp [make_of f27 b27,g4,r4,e7]
  intro n5 b5 f5
  have o5:=(Own.start (base:=base) (H:=K4)).new f5 b5 (s:=.arr 9 [encW (wdN x)])
  have hs5 : Rd _ 9 (.sl n5 0 1) (([wdN x] : List (List Nat)).map encW):=o5.rd 0 rfl rfl
  simp [make_of f5 b5]
  refine (i_Holds (base:=base) 1 0 (by decide) (by decide) S _ _ _ _ (ho.keeps (k4.trans o5.keeps)) gS.2.1 gS.2.1.pos gS.2.2 hs5 (fun u hu => by
    obtain rfl : u = wdN x:=by simpa using hu
    exact ⟨wdN_w x,by omega⟩) rfl).step fun v6 K6 k6 hv => ?_
  rw [hnum] at hv
  subst hv
  have r6:=rd_keeps (o5.keeps.trans k6) r4
  have hsz : ¬ (9223372036854775807 : Int) < ((strL (wdN x)).size : Int) + (({ data:=#[97] } : ByteArray).size : Int):=by
    have sz1 : ({ data:=#[97] } : ByteArray).size = 1:=rfl
    rw [strL_size,sz1]
    omega
  simp [r6,e7,hcat,hsz]
  intro n7 b7 f7
  have o7:=(Own.start (base:=base) (H:=K6)).new f7 b7 (s:=.arr 9 [encW (wdN x++[97])])
  have hs7 : Rd _ 9 (.sl n7 0 1) (([wdN x++[97]] : List (List Nat)).map encW):=o7.rd 0 rfl rfl
  simp [make_of f7 b7]
  refine (i_Holds (base:=base) 1 0 (by decide) (by decide) S _ _ _ _ (ho.keeps (k4.trans (o5.keeps.trans (k6.trans o7.keeps)))) gS.2.1 gS.2.1.pos gS.2.2 hs7 (fun u hu => by
    obtain rfl : u = wdN x++[97]:=by simpa using hu
    refine ⟨fun b hb => ?_,by rw [List.length_append]; simp; omega⟩
    rcases List.mem_append.1 hb with h | h
    · exact wdN_w x b h
    · obtain rfl : b = 97:=by simpa using h
      exact .inl rfl) rfl).step fun v8 K8 k8 hv => ?_
  rw [hbad] at hv
  subst hv
  have hkk:=hk.trans (k3.trans (k4.trans (o5.keeps.trans (k6.trans (o7.keeps.trans k8)))))
  by_cases hxr : x % m = r
  · simp [e5,hm1,hmod,hxr,hkk]
  · have hxr' : ¬ ((x % m : Nat) : Int) = (r : Int):=by omega
    have hxe : ((x % m : Nat) : Int) = (x : Int) % (m : Int):=Int.natCast_emod x m
    have hx2 : ¬ (x : Int) % (m : Int) = (r : Int):=by rw [← hxe]; exact hxr'
    have hx3 : ((x : Int) % (m : Int) == (r : Int)) = false:=by simpa using hx2
    have hx4 : (((x % m : Nat) : Int) == (r : Int)) = false:=by simpa using hxr'
    simp [e5,hm1,hmod,hxr,hxr',hx2,hx3,hx4,hkk]
end Go.Proofs.YtbnmhbmhafbmiaaGreatDoor.W
end

section
namespace Go.Proofs.YtbnmhbmhafbmiaaGreatDoor.W
set_option linter.unusedVariables false
set_option linter.unusedSimpArgs false
open Go.B
variable {base : Nat}
attribute [local simp] wpC_skip wpC_region wpC_seq wpC_true wpC_false wpC_block wpC_exit wpC_ret wpO_nil wpO_n wpO_tt wpO_ff wpO_tf wpO_ft wpO_u wpS_mov wpS_pick wpS_build wpS_load wpS_store wpS_nilck wpS_bin wpS_beq wpS_isnil wpS_eqs wpS_not wpS_neg wpS_conv wpS_lea wpS_fld wpS_idx wpS_idxs wpS_slice wpS_sslice wpS_mkfn wpS_mset wpS_look wpS_ext wpS_len wpS_new wpS_box wpS_mk wpS_mkmap wpS_mksl wpS_app wpS_fn wpS_call after_some pthen_n pthen_x pthen_r pin BExit.outOf puto_some puto_none put_eq put_ne Opd.ev argEnv op1_mov op1_pick op1_new op1_box op1_load op1_nilck op1_bin op1_beq op1_not op1_neg op1_conv op1_lea op1_fld op1_len0 op1_len1 op1_idx op1_ext op1_build op1_mk op1_stw op1_mksl op1_eqs pureBin isShift resOf resVals val_tmp val_cell oneOf one_int cells_int one_bool cells_bool one_str cells_str one_nilp cells_nilp one_ptr cells_ptr one_nils cells_nils one_sl cells_sl one_sle cells_sle one_nilm cells_nilm one_mp cells_mp one_nilf cells_nilf one_fn cells_fn one_nili cells_nili cells_agg isSl_sl slen_sl sat_sl make_of asm rtOk wpS_b2s op1_b2s wpS_imax op1_imax wpS_imin op1_imin wpS_i2s op1_i2s op1_isnil Option.map_some gam_base op1_app op1_idxs wpS_idxa op1_idxa op1_sslice bound_none bound_some nat_of op1_mkmap op1_mset op1_look op1_len2 op1_mkfn Go.B.fillB Has
section
variable {H : Type} {enc : TypeId × Value→H} {W : World} {held : Bool}
theorem sls_nil (w : World) (ty sz : Nat) : Sls (heap0 w) ty sz (absV w (.slice none 0 0)) []:=⟨rfl,rfl,fun i x hi => by simp at hi⟩
theorem u2 : Tryz.prog.underlying 2 = some (.int .i64):=by kernel_rfl
theorem u4 : Tryz.prog.underlying 4 = some .bool:=by kernel_rfl
end
section
variable {H : Type} {enc : TypeId × Value→H} {W : World} {held : Bool}
theorem u8s : Tryz.prog.underlying 33 = some (.slice 5):=by kernel_rfl
theorem u8k : Tryz.prog.underlying 5 = some (.int .u8):=by kernel_rfl
theorem open_u8s {a : Addr} {L C : Nat} {Z : List Int} (hl : L≤C) (hz : Z.length = C) (hcell : ∀ c,c < C→W.cell? (a.add c) = some (.int .u8 (Z.getD c 0))) :
    ∃ ty,Rd (heap0 W) ty (absV W (.slice (some a) L C)) ((Z.take L).map encY):=by
  obtain ⟨ty,hs⟩:=Sls.start (w:=W) (a:=a) (n:=L) (c:=C) (sz:=1) (xs:=(Z.take L).map fun z => [Value.int .u8 z]) (by simp; omega) hl (by omega) (fun x hx => by
    obtain ⟨z,_,rfl⟩:=List.mem_map.1 hx
    rfl) (by
    intro i x hi j v hj
    rw [List.getElem?_map] at hi
    simp only [Option.map_eq_some_iff] at hi
    obtain ⟨k,hk,rfl⟩:=hi
    obtain ⟨hlt,hkv⟩:=List.getElem?_eq_some_iff.1 hk
    rw [List.length_take] at hlt
    rw [List.getElem_take] at hkv
    cases j with
    | zero =>
      simp at hj
      subst hj
      have:=hcell i (by omega)
      rw [List.getD_eq_getElem?_getD,List.getElem?_eq_getElem (by omega)] at this
      rw [← hkv]
      simpa using this
    | succ j => simp at hj)
  refine ⟨ty,?_⟩
  unfold Rd
  simpa [List.map_map,Function.comp_def,absV,toB1,one1,encY] using hs
set_option maxRecDepth 100000 in
theorem open_bytesL {r : Reach} {b0 : Nat} {c : Value} {d : DataW H} {ps : List MemPlace} (hval : Value.okWide Tryz.prog W r b0 33 c) (h : DataW.Trod enc Tryz.prog W 0 (fun _ => true) held 33 c d ps) :
    ∃ (ns : List Int) (ty : Nat),Rd (heap0 W) ty (absV W c) (ns.map encY)∧∀ b∈ns,0≤b∧b < 256:=by
  obtain ⟨fuel,h⟩:=h
  obtain ⟨a0,len0,cap0,rfl⟩:=Go.WideShapes.okWide_slice u8s hval
  rw [show (Value.slice a0 len0 cap0).cells.toList = [.slice a0 len0 cap0] from rfl] at h
  rcases Go.ChangeShapes.open_ints u8s u8k (by kernel_rfl) h with ⟨e,_⟩ | ⟨a,len,cap,zs,e,hb,hl,hm,hz,hy,hcell,hwz⟩
  · simp at e
    obtain ⟨rfl,rfl,rfl⟩:=e
    exact ⟨[],0,sls_nil W 0 1,by simp⟩
  · simp at e
    obtain ⟨rfl,rfl,rfl⟩:=e
    simp only [if_true] at hz
    obtain ⟨ty,hty⟩:=open_u8s (W:=W) (a:=a) hl hz (fun i hi => hcell i (by rw [hz]; exact hi))
    refine ⟨zs.take len0,ty,hty,fun b hb => ?_⟩
    have:=hwz b (List.mem_of_mem_take hb)
    simp only [Lit.wf,Bool.and_eq_true,decide_eq_true_eq] at this
    have e1 : IntKind.min .u8 = 0:=by decide
    have e2 : IntKind.max .u8 = 255:=by decide
    rw [e1,e2] at this
    omega
end
end Go.Proofs.YtbnmhbmhafbmiaaGreatDoor.W
end

section
namespace Go.Proofs
open Go.Shelf Go.B
def Tryz.laysItoa_ren : Go.Shelf.Ren:=⟨fun | 171 => 210 | 243 => 239 | 246 => 256 | 283 => 260 | 284 => 261 | 285 => 262 | 286 => 263 | 129 => 233 | 317 => 266 | 318 => 267 | 319 => 268 | 320 => 269 | 337 => 270 | 338 => 271 | n => n,fun | 3 => 3 | 9 => 9 | 2 => 2 | 4 => 4 | 171 => 234 | 0 => 0 | 53 => 204 | 37 => 33 | 5 => 5 | 173 => 236 | 212 => 239 | 51 => 202 | 20 => 20 | 213 => 240 | 46 => 105 | 232 => 241 | 233 => 242 | n => n,fun | 17 => 3 | 18 => 4 | 19 => 5 | n => n⟩
theorem Tryz.laysItoa : Go.Proofs.LaysM.n171 Tryz.prog Tryz.laysItoa_ren where
  mixed:=by kernel_rfl
  f129:=Tryz.func233.trans (congrArg some (by kernel_rfl))
  f171:=Tryz.func210.trans (congrArg some (by kernel_rfl))
  f243:=Tryz.func239.trans (congrArg some (by kernel_rfl))
  f246:=Tryz.func256.trans (congrArg some (by kernel_rfl))
  f283:=Tryz.func260.trans (congrArg some (by kernel_rfl))
  f284:=Tryz.func261.trans (congrArg some (by kernel_rfl))
  f285:=Tryz.func262.trans (congrArg some (by kernel_rfl))
  f286:=Tryz.func263.trans (congrArg some (by kernel_rfl))
  f317:=Tryz.func266.trans (congrArg some (by kernel_rfl))
  f318:=Tryz.func267.trans (congrArg some (by kernel_rfl))
  f319:=Tryz.func268.trans (congrArg some (by kernel_rfl))
  f320:=Tryz.func269.trans (congrArg some (by kernel_rfl))
  f337:=Tryz.func270.trans (congrArg some (by kernel_rfl))
  f338:=Tryz.func271.trans (congrArg some (by kernel_rfl))
  t0:=Tryz.underlying0
  a0:=Tryz.isAgg0
  z0:=Tryz.sizeOf0
  v0:=Tryz.zeroValue0
  t2:=Tryz.underlying2
  a2:=Tryz.isAgg2
  z2:=Tryz.sizeOf2
  v2:=Tryz.zeroValue2
  t3:=Tryz.underlying3
  a3:=Tryz.isAgg3
  z3:=Tryz.sizeOf3
  v3:=Tryz.zeroValue3
  t4:=Tryz.underlying4
  a4:=Tryz.isAgg4
  z4:=Tryz.sizeOf4
  v4:=Tryz.zeroValue4
  t5:=Tryz.underlying5
  a5:=Tryz.isAgg5
  z5:=Tryz.sizeOf5
  v5:=Tryz.zeroValue5
  t9:=Tryz.underlying9
  a9:=Tryz.isAgg9
  z9:=Tryz.sizeOf9
  v9:=Tryz.zeroValue9
  t20:=Tryz.underlying20
  a20:=Tryz.isAgg20
  z20:=Tryz.sizeOf20
  v20:=Tryz.zeroValue20
  t37:=Tryz.underlying33
  a37:=Tryz.isAgg33
  z37:=Tryz.sizeOf33
  v37:=Tryz.zeroValue33
  t46:=Tryz.underlying105
  a46:=Tryz.isAgg105
  z46:=Tryz.sizeOf105
  v46:=Tryz.zeroValue105
  t51:=Tryz.underlying202
  a51:=Tryz.isAgg202
  z51:=Tryz.sizeOf202
  v51:=Tryz.zeroValue202
  t53:=Tryz.underlying204
  a53:=Tryz.isAgg204
  z53:=Tryz.sizeOf204
  v53:=Tryz.zeroValue204
  t171:=Tryz.underlying234
  a171:=Tryz.isAgg234
  z171:=Tryz.sizeOf234
  v171:=Tryz.zeroValue234
  t173:=Tryz.underlying236
  a173:=Tryz.isAgg236
  z173:=Tryz.sizeOf236
  v173:=Tryz.zeroValue236
  t212:=Tryz.underlying239
  a212:=Tryz.isAgg239
  z212:=Tryz.sizeOf239
  v212:=Tryz.zeroValue239
  t213:=Tryz.underlying240
  a213:=Tryz.isAgg240
  z213:=Tryz.sizeOf240
  t232:=Tryz.underlying241
  a232:=Tryz.isAgg241
  z232:=Tryz.sizeOf241
  v232:=Tryz.zeroValue241
  t233:=Tryz.underlying242
  a233:=Tryz.isAgg242
  z233:=Tryz.sizeOf242
  v233:=Tryz.zeroValue242
  g17:=by kernel_rfl
  g18:=by kernel_rfl
  g19:=by kernel_rfl
  i0:=by kernel_rfl
  i2:=by kernel_rfl
  i3:=by kernel_rfl
  i4:=by kernel_rfl
  i5:=by kernel_rfl
  i9:=by kernel_rfl
  i20:=by kernel_rfl
  i37:=by kernel_rfl
  i46:=by kernel_rfl
  i51:=by kernel_rfl
  i53:=by kernel_rfl
  i171:=by kernel_rfl
  i173:=by kernel_rfl
  i212:=by kernel_rfl
  i232:=by kernel_rfl
  i233:=by kernel_rfl
  m17:=by kernel_rfl
  m18:=by kernel_rfl
  m19:=by kernel_rfl
def Tryz.laysDel_ren : Go.Shelf.Ren:=⟨fun | 23 => 185 | n => n,fun | 22 => 80 | 3 => 3 | 4 => 4 | 0 => 0 | n => n,fun | n => n⟩
theorem Tryz.laysDel : Go.Proofs.Lays2.n23 Tryz.prog Tryz.laysDel_ren where
  mixed:=by kernel_rfl
  f23:=Tryz.func185.trans (congrArg some (by kernel_rfl))
  t0:=Tryz.underlying0
  a0:=Tryz.isAgg0
  z0:=Tryz.sizeOf0
  v0:=Tryz.zeroValue0
  t3:=Tryz.underlying3
  a3:=Tryz.isAgg3
  z3:=Tryz.sizeOf3
  v3:=Tryz.zeroValue3
  t4:=Tryz.underlying4
  a4:=Tryz.isAgg4
  z4:=Tryz.sizeOf4
  v4:=Tryz.zeroValue4
  t22:=Tryz.underlying80
  a22:=Tryz.isAgg80
  z22:=Tryz.sizeOf80
  v22:=Tryz.zeroValue80
  i3:=by kernel_rfl
def Tryz.laysIns_ren : Go.Shelf.Ren:=⟨fun | 21 => 213 | 27 => 240 | 28 => 241 | 35 => 257 | 39 => 264 | n => n,fun | 22 => 80 | 3 => 3 | 4 => 4 | 0 => 0 | n => n,fun | n => n⟩
theorem Tryz.laysIns : Go.Proofs.Lays2.n21 Tryz.prog Tryz.laysIns_ren where
  mixed:=by kernel_rfl
  f21:=Tryz.func213.trans (congrArg some (by kernel_rfl))
  f27:=Tryz.func240.trans (congrArg some (by kernel_rfl))
  f28:=Tryz.func241.trans (congrArg some (by kernel_rfl))
  f35:=Tryz.func257.trans (congrArg some (by kernel_rfl))
  f39:=Tryz.func264.trans (congrArg some (by kernel_rfl))
  t0:=Tryz.underlying0
  a0:=Tryz.isAgg0
  z0:=Tryz.sizeOf0
  v0:=Tryz.zeroValue0
  t3:=Tryz.underlying3
  a3:=Tryz.isAgg3
  z3:=Tryz.sizeOf3
  v3:=Tryz.zeroValue3
  t4:=Tryz.underlying4
  a4:=Tryz.isAgg4
  z4:=Tryz.sizeOf4
  v4:=Tryz.zeroValue4
  t22:=Tryz.underlying80
  a22:=Tryz.isAgg80
  z22:=Tryz.sizeOf80
  v22:=Tryz.zeroValue80
  i3:=by kernel_rfl
theorem tryz_ext {base : Nat} {w0 : World} (htab : Lib.TabIs Tryz.prog w0 "internal/strconv.uint64pow10" .u64 Lib.pow10Tab) : Sound Tryz.prog base w0 False (orC (itoaB 210) (orC (delB base 185 3) (insB base 213 3))) :=
  orC_sound (itoaB_sound (enters_of Tryz.func210 rfl rfl) htab fun n h0 h1 w ht => Any.strconv_Itoa Tryz.laysItoa n h0 h1 w ht)
    (orC_sound (delB_sound (enters_of Tryz.func185 rfl rfl) (by kernel_rfl) fun blk off cap i j zs w hH hc hm hij hj => Any.slices_Delete_int Tryz.laysDel blk off cap i j zs w hH hc hm hij hj)
      (insB_sound (enters_of Tryz.func213 rfl rfl) (by kernel_rfl) (insDoes_of Tryz.laysIns)))
theorem tryz_framed {base : Nat} : Framed (orC (itoaB 210) (orC (delB base 185 3) (insB base 213 3))):=orC_framed (itoaB_framed 210) (orC_framed (delB_framed base 185 3) (insB_framed base 213 3))
end Go.Proofs
end
