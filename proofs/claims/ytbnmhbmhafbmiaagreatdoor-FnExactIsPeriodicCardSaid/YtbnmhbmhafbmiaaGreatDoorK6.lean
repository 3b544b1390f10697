/-
Texts of our own, put together: G8, G9, G10, G11, G12, G13, G14, G15, G16, G17, G18, G19, G20, G21, G22, G23, F1, F2, F3, F4, F5, F6, F7, H1, H2, H3, H4, H5, H6, H7.
-/
import Derived.Test.YtbnmhbmhafbmiaaGreatDoorK5
section
namespace Go.Proofs.YtbnmhbmhafbmiaaGreatDoor.W
set_option linter.unusedVariables false
set_option linter.unusedSimpArgs false
open Go.B
open Go.Au
variable {base : Nat}
attribute [local simp] wpC_skip wpC_region wpC_seq wpC_true wpC_false wpC_block wpC_exit wpC_ret wpO_nil wpO_n wpO_tt wpO_ff wpO_tf wpO_ft wpO_u wpS_mov wpS_pick wpS_build wpS_load wpS_store wpS_nilck wpS_bin wpS_beq wpS_isnil wpS_eqs wpS_not wpS_neg wpS_conv wpS_lea wpS_fld wpS_idx wpS_idxs wpS_slice wpS_sslice wpS_mkfn wpS_mset wpS_look wpS_ext wpS_len wpS_new wpS_box wpS_mk wpS_mkmap wpS_mksl wpS_app wpS_fn wpS_call after_some pthen_n pthen_x pthen_r pin BExit.outOf puto_some puto_none put_eq put_ne Opd.ev argEnv op1_mov op1_pick op1_new op1_box op1_load op1_nilck op1_bin op1_beq op1_not op1_neg op1_conv op1_lea op1_fld op1_len0 op1_len1 op1_idx op1_ext op1_build op1_mk op1_stw op1_mksl op1_eqs pureBin isShift resOf resVals val_tmp val_cell oneOf one_int cells_int one_bool cells_bool one_str cells_str one_nilp cells_nilp one_ptr cells_ptr one_nils cells_nils one_sl cells_sl one_sle cells_sle one_nilm cells_nilm one_mp cells_mp one_nilf cells_nilf one_fn cells_fn one_nili cells_nili cells_agg isSl_sl slen_sl sat_sl make_of asm rtOk wpS_b2s op1_b2s wpS_imax op1_imax wpS_imin op1_imin wpS_i2s op1_i2s op1_isnil Option.map_some gam_base op1_app op1_idxs wpS_idxa op1_idxa op1_sslice bound_none bound_some nat_of op1_mkmap op1_mset op1_look op1_len2 op1_mkfn Go.B.fillB Has
theorem erase_same {t at_ c : Nat} (h : t = at_) : (digs (t + 1) c).eraseIdx at_ = (digs t c).eraseIdx at_:=by
  subst h
  rw [digs_succ,List.eraseIdx_append_of_length_le (by rw [digs_len]; omega),digs_len,Nat.sub_self]
  simp [List.eraseIdx_of_length_le,digs_len]
theorem erase_more {t at_ c : Nat} (h : t≠at_) : (digs (t + 1) c).eraseIdx at_ = (digs t c).eraseIdx at_++[dg c t]:=by
  rw [digs_succ]
  by_cases h1 : at_ < t
  · rw [List.eraseIdx_append_of_lt_length (by rw [digs_len]; exact h1)]
  · rw [List.eraseIdx_of_length_le (by simp [digs_len]; omega),List.eraseIdx_of_length_le (by simp [digs_len]; omega)]
theorem s_left (c t at_ : Nat) (H : BH) (ht : t≤3) (hc : c < 1000000) (hat : at_≤100) : Runs (gam base) 204 [encN c,encN t,encN at_] H (encN (colD ((digs t c).eraseIdx at_))) H:=by
  refine runs_of (fn:=ir204) rfl ?_
  simp [ir204]
  refine wpC_countK t [(0,encN c),(1,encN t),(2,encN at_)] (fun i e K => e 9 = encN i∧e 7 = encN (colD ((digs i c).eraseIdx at_))∧e 8 = encN ((digs i c).eraseIdx at_).length∧K = H) (i0:=0) rfl ?_ ?_ (Nat.zero_le _) ?_
  · simp
  · simp [digs,colD]
  rintro i e K hi ⟨e0,e1,e2,-⟩ ⟨e9,e7,e8,rfl⟩
  simp only [] at e0 e1 e2
  have wi:=wS (n:=i) (by omega)
  by_cases hlt : i < t
  · by_cases heq : i = at_
    · have he:=erase_same (t:=i) (at_:=at_) (c:=c) heq
      subst heq
      simp [e1,e2,e7,e8,e9,hlt,wi,he]
    · have hne : ¬ (i : Int) = (at_ : Int):=by omega
      obtain ⟨k,hk⟩ : ∃ k,k = ((digs i c).eraseIdx at_).length:=⟨_,rfl⟩
      have hk3 : k≤3:=by
        rw [hk,List.length_eraseIdx,digs_len]
        split <;> omega
      obtain ⟨a,ha⟩ : ∃ a,a = dg c i:=⟨_,rfl⟩
      have ha3 : a≤2:=by have:=dg_lt c i; omega
      obtain ⟨b,hb⟩ : ∃ b,b = p3 k:=⟨_,rfl⟩
      have hb27 : b≤27:=by rw [hb]; exact Nat.pow_le_pow_right (by omega) hk3
      obtain ⟨X,hX⟩ : ∃ X,X = colD ((digs i c).eraseIdx at_):=⟨_,rfl⟩
      have hX27 : X < 27:=by
        have h1:=colD_lt ((digs_3 i c).erase at_)
        rw [← hX,← hk,← hb] at h1
        omega
      have hab : a * b≤54:=Nat.le_trans (Nat.mul_le_mul ha3 hb27) (by decide)
      have wm : IntKind.i64.wrap ((a : Int) * (b : Int)) = (a : Int) * (b : Int):=by
        have : (a : Int) * (b : Int) = ((a * b : Nat) : Int):=by simp
        rw [this]
        exact w64 (by omega) (by omega)
      have wa : IntKind.i64.wrap ((X : Int) + (a : Int) * (b : Int)) = (X : Int) + (a : Int) * (b : Int):=by
        have : (X : Int) + (a : Int) * (b : Int) = ((X + a * b : Nat) : Int):=by simp
        rw [this]
        exact w64 (by omega) (by omega)
      have wk:=wS (n:=k) (by omega)
      rw [← hX] at e7
      rw [← hk] at e8
      have hd:=s_digit (base:=base) c i K (by omega) hc
      rw [← ha] at hd
      have hp:=s_power (base:=base) k K (by omega)
      rw [← hb] at hp
      simp [e0,e1,e2,e7,e8,e9,hlt,hne,heq]
      refine callP hd ?_
      simp [e8]
      refine callP hp ?_
      simp [wm,wa,e7,e8,e9,wk,wi,hlt]
      rw [erase_more heq,colD_snoc,← hX,← ha,← hk,← hb]
      simp [← hk]
  · have hie : i = t:=by omega
    subst hie
    simp [e1,e9,e7]
theorem own_end {H K K3 : BH} {n2 i t : Nat} {L : List Sl} {zs : List BV} {A : Aut} {m : BV} (o : Own base H K L) (hL : L[i]? = some (some n2,.arr 25 zs)) (hz : zs.length = 4) (k : K.Keeps K3) (hr : OwnRel base K K3 t 0 A m) :
    ∃ K7,K3.wr base none 4 (.ptr n2 0) m = some K7∧K7.rd none (some 4) (.ptr n2 0) = some m∧H.Keeps K7∧OwnRel base H K7 t 0 A m:=by
  obtain ⟨m',K7,e,g,r,kk,m2,e2,h⟩:=rel_end (base:=base) (r:=(some A,0)) (v:=.tup [m,encN 0]) o hL hz k ⟨m,rfl,hr⟩
  have e1 : m = m':=by simpa using e
  have e3 : m' = m2:=by simpa using e2
  subst e1
  subst e3
  exact ⟨K7,g,r,kk,h⟩
theorem s_added (t s at_ rb : Nat) (ht : t + 1≤3) (hat : at_≤t) (A : Aut) (H : BH) (hA : RdP H rb t s A) (hok : A.Ok (wd t)) (hs : s < A.acc.length) (hn : A.acc.length≤10000) :
    FnDoes (gam base) 154 [.ptr rb 0,encN at_] H fun v K => OwnRel base H K (t + 1) 0 (TA (t + 1) (addL t at_ (A.lang s))) v:=by
  obtain ⟨R,hR⟩ : ∃ R : BV→BH→Prop,R = fun v K => OwnRel base H K (t + 1) 0 (TA (t + 1) (addL t at_ (A.lang s))) v:=⟨_,rfl⟩
  rw [← hR]
  refine FnDoes.of (fn:=ir154) rfl ?_
  obtain ⟨u,x,hrow,hu,hx⟩:=id hA
  have wt:=wS (n:=t) (by omega)
  have hnl : A.nxt.length = A.acc.length:=hok.len
  simp [ir154]
  intro n4 b4 f4
  have o0:=Own.start (base:=base) (H:=H) |>.new f4 b4 (s:=.arr 25 [.int .i64 0,.int .i64 0,.nils,.nils])
  have q0:=rd_keeps o0.keeps (rd_ptr hrow (rt:=none) (j:=0) (c:=encN t) rfl rfl)
  have q1:=rd_keeps o0.keeps (rd_ptr hrow (rt:=some 25) (j:=1) (c:=encN s) rfl rfl)
  have q2:=rd_keeps o0.keeps (rd_ptr hrow (rt:=none) (j:=2) (c:=u) rfl rfl)
  simp [make_of f4 b4,q0,q1,q2,wt]
  intro n21 b21 f21
  simp [make_of f21 b21]
  intro n26 b26 f26
  have o1:=o0.new f21 b21 (s:=.arr 4 [])
  obtain ⟨v,K1,bo,g1,o2,hv⟩:=o1.app 0 rfl (bo:=some n21) (cs:=[]) (v:=.sl n21 0 0) rfl (vy:=u) (new:=A.acc.map encB) (bytes:=1) (Rd.cells (hu.keeps o1.keeps) (by simpa using hok.pos)) (fun c hc => by obtain ⟨b,_,rfl⟩:=List.mem_map.1 hc; rfl) (by simp; omega) (by simp; omega) f26 b26
  have v1:=hv.one
  simp [g1,v1,cells_one v1]
  intro n6 b6 f6
  obtain ⟨K2,g2,o3⟩:=(o2.new f6 b6 (s:=.arr 25 [.int .i64 0,.int .i64 0,.nils,.nils])).putAll 0 (b:=n6) (n:=4) (ds:=[.int .i64 ((t : Int) + 1),encN s,v,.nils]) rfl rfl rfl (by simp [v1]) (rt:=none) rfl
  simp [make_of f6 b6,g2]
  obtain ⟨n,hnn⟩ : ∃ n,n = A.acc.length:=⟨_,rfl⟩
  obtain ⟨W,hW⟩ : ∃ W,W = wd (t + 1):=⟨_,rfl⟩
  have hW26 : W≤26:=by rw [hW]; exact wd_3 ht
  obtain ⟨G,hG⟩ : ∃ G : Nat→Nat→Nat,G = fun q c => if lessC t at_ c < wd t then A.to q (lessC t at_ c) else q:=⟨_,rfl⟩
  obtain ⟨F,hF⟩ : ∃ F : BV→List Sl,F = fun z => [(some n6,.arr 25 [encN (t + 1),encN s,v,z]),(bo,.arr 4 (A.acc.map encB)),(some n4,.arr 25 [.int .i64 0,.int .i64 0,.nils,.nils])]:=⟨_,rfl⟩
  obtain ⟨I,hI⟩ : ∃ I : Nat→Env→BH→Prop,I = (fun q e K => e 7 = encN q∧∃ z wo vs fr,Own base H K (((wo,.arr 36 vs)::F z)++fr)∧Vec wo z q∧vs.length = q∧RowsOf 2 vs fr (((List.range q).map fun q => (List.range W).map (G q)).map (·.map encN))):=⟨_,rfl⟩
  refine wpC_countK n [(0,.ptr rb 0),(1,encN at_),(4,.ptr n4 0),(5,encN (t + 1)),(6,.ptr n6 0)] I (i0:=0) ?_ ?_ ?_ (Nat.zero_le _) ?_
  · rfl
  · simp
  · rw [hI]
    refine ⟨by simp,.nils,none,[],[],?_,Vec.none,rfl,trivial⟩
    rw [hF]
    have o4 : Own base H K2 [(some n6,.arr 25 [encN (t + 1),encN s,v,.nils]),(bo,.arr 4 (A.acc.map encB)),(some n4,.arr 25 [.int .i64 0,.int .i64 0,.nils,.nils])]:=by
      have e : encN (t + 1) = .int .i64 ((t : Int) + 1):=by simp
      rw [e]
      exact o3
    simpa using o4.nil (.arr 36 [])
  clear o0 o1 o2 o3 q0 q1 q2 g1 g2
  rintro q e K hq ⟨e0,e1,e4,e5,e6,-⟩ hh
  rw [hI] at hh
  obtain ⟨e7,z,wo,vs,fr,o,hz,hvs,hrows⟩:=hh
  rw [hF] at o
  simp only [] at e0 e1 e4 e5 e6
  have wq:=wS (n:=q) (by omega)
  have s2:=rd_keeps o.keeps (rd_ptr hrow (rt:=none) (j:=2) (c:=u) rfl rfl)
  by_cases hlq : q < n
  · simp [e0,e7,s2,hu.isSl,hu.lenM,← hnn,hlq]
    intro n37 b37 f37
    simp [make_of f37 b37]
    obtain ⟨J,hJ⟩ : ∃ J : Nat→Env→BH→Prop,J = (fun j e K => e 9 = encN j∧∃ y yo,e 8 = y∧Own base H K ((yo,.arr 2 (((List.range j).map (G q)).map encN))::(wo,.arr 36 vs)::(F z++fr))∧Vec yo y j):=⟨_,rfl⟩
    refine wpC_countK W [(0,.ptr rb 0),(1,encN at_),(4,.ptr n4 0),(5,encN (t + 1)),(6,.ptr n6 0),(7,encN q)] J (i0:=0) ?_ ?_ ?_ (Nat.zero_le _) ?_
    · rfl
    · simp [e0,e1,e4,e5,e6,e7]
    · rw [hJ,hF]
      exact ⟨by simp,.sl n37 0 0,some n37,by simp,o.new f37 b37 (s:=.arr 2 []),rfl⟩
    clear e0 e1 e4 e5 e6 e7 s2
    rintro j e L hj ⟨e0,e1,e4,e5,e6,e7,-⟩ hh
    rw [hJ,hF] at hh
    obtain ⟨e9,y,yo,e8,oL,hy⟩:=hh
    simp only [] at e0 e1 e4 e5 e6 e7
    have wj:=wS (n:=j) (by omega)
    have s0:=rd_keeps oL.keeps (rd_ptr hrow (rt:=none) (j:=0) (c:=encN t) rfl rfl)
    have s3:=rd_keeps oL.keeps (rd_ptr hrow (rt:=none) (j:=3) (c:=x) rfl rfl)
    have hwide:=s_wide (base:=base) (t + 1) L (by omega)
    rw [← hW] at hwide
    simp [e5,e9]
    refine callP hwide ?_
    by_cases hlj : j < W
    · simp [hlj,e0,e1,e5,e7,e9]
      have hleft:=s_left (base:=base) j (t + 1) at_ L (by omega) (by omega) (by omega)
      have hleft : Runs (gam base) 204 [encN j,encN (t + 1),encN at_] L (encN (lessC t at_ j)) L:=hleft
      refine callP hleft ?_
      simp [e0,s0]
      refine callP (s_wide (base:=base) t L (by omega)) ?_
      have hyl : Vec yo y (((List.range j).map (G q)).map encN).length:=by simpa using hy
      by_cases hcw : lessC t at_ j < wd t
      · have hne : ¬ (lessC t at_ j : Int) = (wd t : Int):=by omega
        have hne' : lessC t at_ j≠wd t:=by omega
        obtain ⟨ri,hri,hrr⟩:=hx.at (i:=q) (by omega)
        have hrr:=rd_keeps oL.keeps (hrr none rfl)
        have hrw:=(hok.row _ (List.getElem_mem (show q < A.nxt.length by omega))).1
        have hrj:=(hri.keeps oL.keeps).at (i:=lessC t at_ j) (by rw [hrw]; exact hcw) (rt:=none) rfl
        rw [to_get hok (by omega) (by rw [hrw]; exact hcw)] at hrj
        have hqx : q < A.nxt.length:=by omega
        simp [hne,hne',hcw,e0,s3,e7,hx.isSl,hx.len,hqx,hrr,hri.isSl,hri.lenM,hrw,hrj,e8]
        intro n70 b70 f70
        simp [make_of f70 b70]
        intro n71 b71 f71
        obtain ⟨y',M',yo',p1,p2,p3⟩:=oL.push 0 rfl hyl (x:=encN (A.to q (lessC t at_ j))) (bytes:=8) rfl (by simp; omega) (by simp; omega) f70 b70 f71 b71
        simp [p1,e9,wj,hlj]
        rw [hJ,hF]
        refine ⟨by simp,y',some yo',by simp,?_,by simpa using p3⟩
        rw [List.range_succ,List.map_append,List.map_append]
        have hGj : G q j = A.to q (lessC t at_ j):=by rw [hG]; simp [hcw]
        simp only [List.map_cons,List.map_nil,hGj]
        exact p2
      · have heq' : lessC t at_ j = wd t:=by have:=lessC_le (t:=t) (at_:=at_) j hat; omega
        simp [heq',e7,e8]
        intro n70 b70 f70
        simp [make_of f70 b70]
        intro n71 b71 f71
        obtain ⟨y',M',yo',p1,p2,p3⟩:=oL.push 0 rfl hyl (x:=encN q) (bytes:=8) rfl (by simp; omega) (by simp; omega) f70 b70 f71 b71
        simp [p1,e9,wj,hlj]
        rw [hJ,hF]
        refine ⟨by simp,y',some yo',by simp,?_,by simpa using p3⟩
        rw [List.range_succ,List.map_append,List.map_append]
        have hGj : G q j = q:=by rw [hG]; simp [hcw]
        simp only [List.map_cons,List.map_nil,hGj]
        exact p2
    · have hjW : j = W:=by omega
      subst hjW
      have p3:=rd_ptr (oL.at 2 (b:=n6) rfl) (rt:=none) (j:=3) (c:=z) rfl rfl
      have hy1:=hy.one
      simp [e6,p3,e8,hy1,cells_one hy1]
      intro n70 b70 f70
      simp [make_of f70 b70]
      intro n71 b71 f71
      obtain ⟨z',M',wo',q1,o5,q3⟩:=oL.push 1 rfl (v:=z) (by rw [hvs]; exact hz) (x:=y) (bytes:=24) hy1 (by omega) (by omega) f70 b70 f71 b71
      obtain ⟨M2,p2,o6⟩:=o5.put 2 (b:=n6) rfl (j:=3) (u:=z') (by simp) q3.one (rt:=none) rfl
      simp [q1,e6,p2,e7,wq,hlq]
      rw [hI,hF]
      refine ⟨by simp,z',some wo',vs++[y],fr++[(yo,.arr 2 (((List.range j).map (G q)).map encN))],?_,by rw [hvs] at q3; exact q3,by simp [hvs],?_⟩
      · have o7 : Own base H M2 ((yo,.arr 2 (((List.range j).map (G q)).map encN))::(((some wo',.arr 36 (vs++[y]))::[(some n6,.arr 25 [encN (t + 1),encN s,v,z']),(bo,.arr 4 (A.acc.map encB)),(some n4,.arr 25 [.int .i64 0,.int .i64 0,.nils,.nils])])++fr)):=o6
        exact o7.last
      · rw [List.range_succ,List.map_append,List.map_append]
        have hy' : Vec yo y (((List.range j).map (G q)).map encN).length:=by simpa using hy
        exact hrows.snoc hy'
  · have hqn : q = n:=by omega
    subst hqn
    have hnx : ((List.range q).map fun q => (List.range W).map (G q)) = (mapA (wd t) (wd (t + 1)) A (lessC t at_)).nxt:=by
      rw [hG,hW,hnn]
      rfl
    rw [hnx] at hrows
    have hP : RdP K n6 (t + 1) s (mapA (wd t) (wd (t + 1)) A (lessC t at_)):=by
      refine ⟨v,z,o.at 1 rfl,o.rd 2 rfl (by simpa [mapA] using hv),?_⟩
      exact RowsOf.rdR (bo:=wo) (F:=((wo,.arr 36 vs)::[(some n6,.arr 25 [encN (t + 1),encN s,v,z]),(bo,.arr 4 (A.acc.map encB)),(some n4,.arr 25 [.int .i64 0,.int .i64 0,.nils,.nils])])) o hrows (o.rd 0 rfl (by rw [hvs]; exact hz))
    simp [e0,e4,e6,e7,s2,hu.isSl,hu.lenM,← hnn]
    have hokm:=mapA_ok (w':=wd (t + 1)) (col:=lessC t at_) hok
    refine (s_tidied (base:=base) (t + 1) s n6 ht _ K hP hokm hs (by show A.acc.length≤_; omega)).step fun m K3 k3 hm => ?_
    rw [add_s hok hs] at hm
    obtain ⟨K7,g7,r7,kk,hown⟩:=own_end (base:=base) o (i:=3) (n2:=n4) rfl rfl k3 hm
    simp [e4,g7,r7]
    rw [hR]
    exact ⟨kk,hown⟩
theorem s_AddTape (t s at_ : Nat) (ht1 : 1≤t) (ht : t + 1≤3) (hat : at_≤t) (A : Aut) (m : BV) (H : BH) (hA : RdRel H t s A m) (hok : A.Ok (wd t)) (hs : s < A.acc.length) (hn : A.acc.length≤150) :
    FnDoes (gam base) 118 [m,encN at_] H fun v K => RelR base H (t + 1) (addN t at_ (A.lang s)) v K:=by
  obtain ⟨R,hR⟩ : ∃ R : BV→BH→Prop,R = fun v K => RelR base H (t + 1) (addN t at_ (A.lang s)) v K:=⟨_,rfl⟩
  rw [← hR]
  refine FnDoes.of (fn:=ir118) rfl ?_
  have g1:=hA
  obtain ⟨u,x,rfl,hu,hx⟩:=hA
  have u1:=hu.one
  have x1:=one_of_isSl hx.isSl
  simp [ir118,u1,x1]
  intro n2 b2 f2
  simp [make_of f2 b2]
  intro n4 b4 f4
  have o1:=Own.start (base:=base) (H:=H) |>.new f2 b2 (s:=.arr 25 [encN t,encN s,u,x]) |>.new f4 b4 (s:=.arr 25 [.int .i64 0,.int .i64 0,.nils,.nils])
  have p1 : RdP _ n2 t s A:=g1.at o1.keeps (o1.at 1 (b:=n2) rfl)
  simp [make_of f4 b4]
  have c1:=s_ok (base:=base) n2 t s _ _ _ p1.raw (by omega)
  rw [ok_valid ht1 (by omega) hok hs hn] at c1
  refine callP c1 ?_
  have r0:=rd_ptr (o1.at 1 (b:=n2) rfl) (rt:=none) (j:=0) (c:=encN t) rfl rfl
  simp [r0]
  refine callP (s_in at_ 0 t _) ?_
  have hin : inB at_ 0 t = true:=by simp [inB]; omega
  have ht3 : t≠3:=by omega
  have ht3' : ¬ (t : Int) = 3:=by omega
  have ht3b : ((t : Int) == 3) = false:=by simp; omega
  rw [hin]
  simp [r0,ht3,ht3',ht3b]
  refine (s_added (base:=base) t s at_ n2 ht hat A _ p1 hok hs (by omega)).step fun v K2 k2 hv => ?_
  simp
  have hl:=(TA_spec ht (mapA_ok (w':=wd (t + 1)) (col:=lessC t at_) hok) (s:=s) hs).2
  rw [add_s hok hs] at hl
  have hl' : (TA (t + 1) (addL t at_ (A.lang s))).acc.length≤8 * A.acc.length + 1:=hl
  refine (s_toldR (base:=base) (t + 1) _ v _ K2 hv (by omega)).step fun v3 K3 k3 hv3 => ?_
  obtain ⟨m,K8,rfl,g8,r8,kk,hrel⟩:=rel_end (base:=base) o1 (i:=0) (n2:=n4) rfl rfl (k2.trans k3) hv3
  simp [g8,r8]
  rw [hR]
  exact ⟨kk,hrel⟩
theorem TA_small {t : Nat} {X : Aut} (h : X.Ok (wd t)) {s : Nat} (hs : s < X.acc.length) {L : List Nat→Bool} (hL : ∀ cs,In (wd t) cs→X.lang s cs = rl t L cs) : IsTidy (wd t) (TA t L) (rl t L)∧(TA t L).acc.length≤X.acc.length:=by
  obtain ⟨k,_,hk,_⟩:=stop_exists h
  have m:=merged_of h hk
  have e:=TA_of_merged (L:=L) m h hs hL
  have hT:=mergedA_tidy m h hs
  refine ⟨?_,?_⟩
  · have:=hT.self
    rw [← hT.eq,e] at this
    obtain ⟨κ,i1,nx,a,s',n,hd,hA,hdist,hl⟩:=this
    exact ⟨κ,i1,nx,a,s',n,hd,hA,hdist,fun cs hc => by rw [hl cs hc,hL cs hc]⟩
  · rw [← e]
    exact mergedA_len m h hs
def lettersT (k : Nat) (cs : List Nat) : List Nat:=(cs.map (dg · k)).filter fun d => decide (d≠2)
def dT (k : Nat) (cs : List Nat) : Bool:=decide ((lettersT k cs).getLast?≠some 0)
def LD (S : List Nat) (cs : List Nat) : Bool:=S.all fun k => dT k cs
theorem LD_append (S S' : List Nat) (cs : List Nat) : (LD S cs && LD S' cs) = LD (S++S') cs:=by simp [LD]
theorem wd_all {t : Nat} : ∀ {c : Nat},c < wd t→∃ k,k < t∧dg c k≠2:=by
  induction t with
  | zero => intro c hc; simp [wd,p3] at hc
  | succ t ih =>
    intro c hc
    by_cases h0 : dg c 0 = 2
    · have h1 : c / 3 < wd t:=by
        have e1:=wd_p3 t
        have e2:=wd_p3 (t + 1)
        rw [p3_succ] at e2
        unfold dg at h0
        rw [qt_zero] at h0
        omega
      obtain ⟨k,hk,hd⟩:=ih h1
      refine ⟨k + 1,by omega,?_⟩
      unfold dg at hd ⊢
      rw [qt_step]
      exact hd
    · exact ⟨0,by omega,h0⟩
theorem dg_wd : ∀ (t k : Nat),k < t→dg (wd t) k = 2
  | 0,k,h => by omega
  | t + 1,0,_ => by
    have e2:=wd_p3 (t + 1)
    rw [p3_succ] at e2
    unfold dg
    rw [qt_zero]
    omega
  | t + 1,k + 1,h => by
    have e1:=wd_p3 t
    have e2:=wd_p3 (t + 1)
    rw [p3_succ] at e2
    have ih:=dg_wd t k (by omega)
    unfold dg at ih ⊢
    rw [qt_step,show wd (t + 1) / 3 = wd t by omega]
    exact ih
theorem letters_less {t at_ k : Nat} (h : at_≤t) (hk : k < t) : ∀ cs : List Nat,lettersT k (mapC (wd t) (lessC t at_) cs) = lettersT (if k < at_ then k else k + 1) cs
  | [] => rfl
  | c::cs => by
    have ih:=letters_less h hk cs
    have hd:=dg_lessC c h hk
    unfold lettersT mapC at ih ⊢
    rw [List.filterMap_cons]
    by_cases h1 : lessC t at_ c < wd t
    · rw [if_pos h1]
      simp only [List.map_cons,List.filter_cons,hd]
      rw [ih]
    · rw [if_neg h1]
      have heq : lessC t at_ c = wd t:=by have:=lessC_le (t:=t) (at_:=at_) c h; omega
      rw [heq,dg_wd t k hk] at hd
      simp only [List.map_cons,List.filter_cons]
      rw [ih,← hd]
      simp
theorem addL_LD {t at_ : Nat} (h : at_≤t) {S : List Nat} (hS : ∀ k∈S,k < t) (cs : List Nat) : addL t at_ (LD S) cs = LD (S.map fun k => if k < at_ then k else k + 1) cs:=by
  unfold addL LD
  rw [List.all_map]
  have e : ∀ k∈S,dT k (mapC (wd t) (lessC t at_) cs) = dT (if k < at_ then k else k + 1) cs:=fun k hk => by
    unfold dT
    rw [letters_less h (hS k hk)]
  rw [Bool.eq_iff_iff,List.all_eq_true,List.all_eq_true]
  exact ⟨fun h' k hk => by rw [Function.comp,← e k hk]; exact h' k hk,fun h' k hk => by rw [e k hk]; exact h' k hk⟩
theorem domL_LD {cs : List Nat} (hc : In (wd 1) cs) : domL cs = LD [0] cs:=by
  have hf : ∀ (cs : List Nat) (k : Nat),In (wd 1) cs→k < 2→decide (cs.foldl (fun _ c => c) k = 1) = decide ((k::lettersT 0 cs).getLast?≠some 0):=by
    intro cs
    induction cs with
    | nil =>
      intro k _ hk
      have : k = 0∨k = 1:=by omega
      rcases this with rfl | rfl <;> simp [lettersT]
    | cons c cs ih =>
      intro k hc hk
      have h1 : c < 2:=hc.head
      have hd : dg c 0 = c:=by unfold dg; rw [qt_zero]; omega
      rw [List.foldl_cons,ih c (fun d hd => hc d (List.mem_cons_of_mem _ hd)) h1]
      have : lettersT 0 (c::cs) = c::lettersT 0 cs:=by
        unfold lettersT
        simp only [List.map_cons,List.filter_cons,hd]
        have : c≠2:=by omega
        simp [this]
      rw [this]
      simp
  unfold domL
  rw [hf cs 1 hc (by omega)]
  unfold LD dT
  simp only [List.all_cons,List.all_nil,Bool.and_true]
  cases h : lettersT 0 cs with
  | nil => simp
  | cons x xs => simp
def stepT (b : Bool) (st d : Nat) : Option Nat:=if st = 2 then (if d = 2 then some 2 else none) else if d = 2 then (if b && decide (st = 1) then none else some 2) else some (if d = 0 then 1 else 0)
def accT (b : Bool) : Nat→List Nat→Bool
  | st,[] => !(b && decide (st = 1))
  | st,d::ds => match stepT b st d with | none => false | some st' => accT b st' ds
def preT (st : Nat) : List Nat:=if st = 1 then [0] else []
theorem rtape_pads : ∀ {ds : List Nat},rtape true ds = true→ds.filter (fun d => decide (d≠2)) = []
  | [],_ => rfl
  | d::ds,h => by
    simp only [rtape,Bool.and_eq_true,Bool.or_eq_true,Bool.not_true,Bool.false_eq_true,false_or,decide_eq_true_iff] at h
    obtain ⟨rfl,h2⟩:=h
    have ih:=rtape_pads (ds:=ds) (by simpa using h2)
    rw [List.filter_cons]
    simpa using ih
theorem last_1 (p rest : List Nat) : decide ((p++1::rest).getLast?≠some 0) = decide (rest.getLast?≠some 0):=by
  rw [List.getLast?_append]
  cases rest with
  | nil => simp
  | cons x xs => simp [List.getLast?_cons]
theorem last_0 (p rest : List Nat) : decide ((p++0::rest).getLast?≠some 0) = decide ((0::rest).getLast?≠some 0):=by
  rw [List.getLast?_append]
  simp [List.getLast?_cons]
theorem accT_eq (b : Bool) : ∀ (ds : List Nat) (st : Nat),st < 3→(∀ d∈ds,d < 3)→accT b st ds = (rtape (decide (st = 2)) ds && (!b || decide ((preT st++ds.filter fun d => decide (d≠2)).getLast?≠some 0)))
  | [],st,hst,_ => by
    have : st = 0∨st = 1∨st = 2:=by omega
    rcases this with rfl | rfl | rfl <;> cases b <;> simp [accT,rtape,preT]
  | d::ds,st,hst,hd => by
    have ih:=fun st h => accT_eq b ds st h fun x hx => hd x (List.mem_cons_of_mem _ hx)
    have hd3:=hd d List.mem_cons_self
    have h1 : d = 0∨d = 1∨d = 2:=by omega
    have h2 : st = 0∨st = 1∨st = 2:=by omega
    have i0:=ih 0 (by omega)
    have i1:=ih 1 (by omega)
    have i2:=ih 2 (by omega)
    obtain ⟨f,hf⟩ : ∃ f,f = ds.filter fun d => decide (d≠2):=⟨_,rfl⟩
    rw [← hf] at i0 i1 i2
    have hp : rtape true ds = true→f = []:=fun h => by rw [hf]; exact rtape_pads h
    rcases h2 with rfl | rfl | rfl <;> rcases h1 with rfl | rfl | rfl <;> simp only [accT,stepT,rtape,List.filter_cons,← hf]
    · simp [i1,preT]
    · have:=last_1 [] f
      simp at this
      simp [i0,preT,this]
    · simp [i2,preT]
    · have:=last_0 [0] f
      simp at this
      simp [i1,preT,this]
    · have:=last_1 [0] f
      simp at this
      simp [i0,preT,this]
    · cases b with
      | false => simp [i2,preT]
      | true =>
        cases h : rtape true ds with
        | false => simp [h]
        | true => simp [h,hp h,preT]
    · simp
    · simp
    · simp [i2,preT]
abbrev Ks:=Option (List Nat)
def ksNx (t : Nat) (S : List Nat) : Ks→Nat→Ks
  | none,_ => none
  | some q,c => if (List.range t).all (fun k => (stepT (decide (k∈S)) (q.getD k 0) (dg c k)).isSome) then some ((List.range t).map fun k => (stepT (decide (k∈S)) (q.getD k 0) (dg c k)).getD 0) else none
def ksAcc (t : Nat) (S : List Nat) : Ks→Bool
  | none => false
  | some q => (List.range t).all fun k => accT (decide (k∈S)) (q.getD k 0) []
theorem ks_none (t : Nat) (S : List Nat) : ∀ cs : List Nat,langK (ksNx t S) (ksAcc t S) none cs = false
  | [] => rfl
  | c::cs => by rw [langK_cons]; exact ks_none t S cs
theorem ks_lang (t : Nat) (S : List Nat) : ∀ (cs : List Nat) (q : List Nat),langK (ksNx t S) (ksAcc t S) (some q) cs = (List.range t).all fun k => accT (decide (k∈S)) (q.getD k 0) (cs.map (dg · k))
  | [],q => rfl
  | c::cs,q => by
    rw [langK_cons]
    by_cases h : (List.range t).all (fun k => (stepT (decide (k∈S)) (q.getD k 0) (dg c k)).isSome) = true
    · have e : ksNx t S (some q) c = some ((List.range t).map fun k => (stepT (decide (k∈S)) (q.getD k 0) (dg c k)).getD 0):=by simp only [ksNx]; rw [if_pos h]
      rw [e,ks_lang t S cs]
      rw [Bool.eq_iff_iff,List.all_eq_true,List.all_eq_true]
      rw [List.all_eq_true] at h
      refine forall_congr' fun k => forall_congr' fun hk => ?_
      have hs:=h k hk
      have hk':=List.mem_range.1 hk
      rw [List.getD_eq_getElem?_getD,List.getElem?_map,List.getElem?_range hk',List.map_cons]
      simp only [Option.map_some,Option.getD_some,accT]
      cases h2 : stepT (decide (k∈S)) (q.getD k 0) (dg c k) with
      | none => rw [h2] at hs; cases hs
      | some st => simp
    · have e : ksNx t S (some q) c = none:=by simp only [ksNx]; rw [if_neg h]
      rw [e,ks_none]
      symm
      rw [Bool.eq_false_iff]
      intro h'
      refine h (List.all_eq_true.2 fun k hk => ?_)
      have:=List.all_eq_true.1 h' k hk
      rw [List.map_cons] at this
      simp only [accT] at this
      cases h2 : stepT (decide (k∈S)) (q.getD k 0) (dg c k) with
      | none => rw [h2] at this; cases this
      | some st => rfl
theorem stepT_lt {b : Bool} {st d x : Nat} (h : stepT b st d = some x) : x < 3:=by
  unfold stepT at h
  split at h
  · split at h
    · cases h; omega
    · cases h
  · split at h
    · split at h
      · cases h
      · cases h; omega
    · cases h
      split <;> omega
def allQ : Nat→List (List Nat)
  | 0 => [[]]
  | t + 1 => (allQ t).flatMap fun q => [0::q,1::q,2::q]
theorem allQ_len : ∀ t,(allQ t).length = 3 ^ t
  | 0 => rfl
  | t + 1 => by
    have:=allQ_len t
    simp only [allQ,List.length_flatMap,List.length_cons,List.length_nil]
    rw [List.map_const',List.sum_replicate_nat,this,Nat.pow_succ]
theorem mem_allQ : ∀ {q : List Nat},(∀ x∈q,x < 3)→q∈allQ q.length
  | [],_ => by simp [allQ]
  | x::q,h => by
    have ih:=mem_allQ (q:=q) fun y hy => h y (List.mem_cons_of_mem _ hy)
    have hx:=h x List.mem_cons_self
    simp only [List.length_cons,allQ,List.mem_flatMap]
    refine ⟨q,ih,?_⟩
    have : x = 0∨x = 1∨x = 2:=by omega
    rcases this with rfl | rfl | rfl <;> simp
theorem ks_closed (t : Nat) (S : List Nat) : Closed (wd t) (ksNx t S) (some (List.replicate t 0)) (none::(allQ t).map some):=by
  have key : ∀ q : List Nat,q.length = t→(∀ x∈q,x < 3)→(some q : Ks)∈(none::(allQ t).map some):=fun q hq hx => by
    refine List.mem_cons_of_mem _ (List.mem_map.2 ⟨q,?_,rfl⟩)
    rw [← hq]
    exact mem_allQ hx
  refine ⟨key _ (by simp) (fun x hx => by have:=List.eq_of_mem_replicate hx; omega),fun k _ c _ => ?_⟩
  cases k with
  | none => exact List.mem_cons_self
  | some q =>
    simp only [ksNx]
    split
    · refine key _ (by simp) fun x hx => ?_
      obtain ⟨k,hk,rfl⟩:=List.mem_map.1 hx
      cases h : stepT (decide (k∈S)) (q.getD k 0) (dg c k) with
      | none => simp
      | some st => simpa using stepT_lt h
    · exact List.mem_cons_self
theorem ks_rl {t : Nat} {S : List Nat} (hS : ∀ k∈S,k < t) (cs : List Nat) : langK (ksNx t S) (ksAcc t S) (some (List.replicate t 0)) cs = rl t (LD S) cs:=by
  rw [ks_lang]
  unfold rl
  rw [Bool.eq_iff_iff,List.all_eq_true,Bool.and_eq_true,rightF_iff _ 0 (Nat.two_pow_pos _)]
  unfold LD
  rw [List.all_eq_true]
  have e : ∀ k,k < t→accT (decide (k∈S)) ((List.replicate t 0).getD k 0) (cs.map (dg · k)) = (rtape false (cs.map (dg · k)) && (!decide (k∈S) || dT k cs)):=fun k hk => by
    have : (List.replicate t 0).getD k 0 = 0:=by rw [List.getD_eq_getElem?_getD,List.getElem?_replicate]; simp [hk]
    rw [this,accT_eq _ _ 0 (by omega) (fun d hd => by obtain ⟨c,_,rfl⟩:=List.mem_map.1 hd; exact dg_lt c k)]
    rfl
  constructor
  · intro h
    refine ⟨fun k hk => ?_,fun k hk => ?_⟩
    · have:=h k (List.mem_range.2 hk)
      rw [e k hk,Bool.and_eq_true] at this
      simpa using this.1
    · have:=h k (List.mem_range.2 (hS k hk))
      rw [e k (hS k hk),Bool.and_eq_true] at this
      simpa [hk] using this.2
  · rintro ⟨p1,p2⟩ k hk
    have hk':=List.mem_range.1 hk
    rw [e k hk',Bool.and_eq_true]
    refine ⟨by simpa using p1 k hk',?_⟩
    by_cases hm : k∈S
    · simp [p2 k hm]
    · simp [hm]
theorem LD_small {t : Nat} (ht : t≤3) {S : List Nat} (hS : ∀ k∈S,k < t) : IsTidy (wd t) (TA t (LD S)) (rl t (LD S))∧(TA t (LD S)).acc.length≤28:=by
  obtain ⟨h1,h2,h3⟩:=autOf_met (a:=ksAcc t S) (ks_closed t S)
  have hl : (none::(allQ t).map (some : List Nat→Ks)).length≤28:=by
    rw [List.length_cons,List.length_map,allQ_len]
    have : 3 ^ t≤3 ^ 3:=Nat.pow_le_pow_right (by omega) ht
    omega
  obtain ⟨g1,g2⟩:=TA_small (L:=LD S) h1 h1.pos fun cs hc => by rw [h3 cs hc,ks_rl hS]
  exact ⟨g1,Nat.le_trans g2 (Nat.le_trans h2 hl)⟩
def skipT (at_ k : Nat) : Nat:=if k < at_ then k else k + 1
def shiftT (S : List Nat) : List Nat→List Nat
  | [] => S
  | p::ps => shiftT (S.map (skipT p)) ps
theorem shiftT_snoc : ∀ (ps S : List Nat) (p : Nat),shiftT S (ps++[p]) = (shiftT S ps).map (skipT p)
  | [],_,_ => rfl
  | _::ps,_,p => shiftT_snoc ps _ p
theorem skip_lt {t at_ : Nat} {S : List Nat} (h : ∀ k∈S,k < t) : ∀ k∈S.map (skipT at_),k < t + 1:=fun k hk => by
  obtain ⟨j,hj,rfl⟩:=List.mem_map.1 hk
  have:=h j hj
  unfold skipT
  split <;> omega
theorem shift_lt : ∀ (ps : List Nat) {t : Nat} {S : List Nat},(∀ k∈S,k < t)→∀ k∈shiftT S ps,k < t + ps.length
  | [],_,_,h => h
  | p::ps,t,S,h => fun k hk => by
    have:=shift_lt ps (skip_lt (at_:=p) h) k hk
    simp only [List.length_cons]
    omega
theorem add_LD {t at_ : Nat} (ht : t≤3) (h : at_≤t) {S : List Nat} (hS : ∀ k∈S,k < t) : TA (t + 1) (addL t at_ ((TA t (LD S)).lang 0)) = TA (t + 1) (LD (S.map (skipT at_))):=TA_congr fun cs hc hr => by
  have hT:=(LD_small ht hS).1
  have h1 : addL t at_ ((TA t (LD S)).lang 0) cs = addL t at_ (LD S) cs:=by
    unfold addL
    rw [hT.lang (mapC_in _ _ _)]
    unfold rl
    rw [right_less h hr]
    rfl
  rw [h1,addL_LD h hS]
  rfl
theorem told_LD {t : Nat} (ht : t≤3) {S : List Nat} (hS : ∀ k∈S,k < t) : told (TA t (LD S)) = (some (TA t (LD S)),0):=by
  have:=(LD_small ht hS).2
  unfold told
  rw [if_neg (by omega)]
theorem OwnRel.rows {H K : BH} {t s : Nat} {A : Aut} {m : BV} (h : OwnRel base H K t s A m) : ∃ Y,Own base H K Y∧∀ {H' K' : BH} {Z : List Sl},Own base H' K' (Z++Y)→RdRel K' t s A m:=by
  obtain ⟨u,w,bo,wo,vs,fr,e,o,hu,hw,hr⟩:=h
  refine ⟨_,o,fun {H' K' Z} o' => ?_⟩
  have h2 : OwnRel base H' K' t s A m:=⟨u,w,bo,wo,vs,fr,e,o'.sub (List.sublist_append_right _ _),hu,hw,hr⟩
  exact h2.rd
theorem i_addTapes (t : Nat) (ht1 : 1≤t) (S ps : List Nat) (hS : ∀ k∈S,k < t) (hps : ∀ (i : Nat) (h : i < ps.length),ps[i]≤t + i) (hlen : t + ps.length≤3) (m v : BV) (H : BH) (hA : RdRel H t 0 (TA t (LD S)) m) (hv : Rd H 2 v (ps.map encN)) :
    FnDoes (gam base) 234 [m,v] H fun r K => ∃ m',r = .tup [m',encN 0]∧RdRel K (t + ps.length) 0 (TA (t + ps.length) (LD (shiftT S ps))) m':=by
  obtain ⟨R,hR⟩ : ∃ R : BV→BH→Prop,R = fun r K => ∃ m',r = .tup [m',encN 0]∧RdRel K (t + ps.length) 0 (TA (t + ps.length) (LD (shiftT S ps))) m':=⟨_,rfl⟩
  rw [← hR]
  refine FnDoes.of (fn:=ir234) rfl ?_
  have g1:=hA
  obtain ⟨u,x,rfl,hu,hx⟩:=hA
  have u1:=hu.one
  have x1:=one_of_isSl hx.isSl
  simp [ir234,u1,x1]
  intro n2 b2 f2
  simp [make_of f2 b2]
  intro n4 b4 f4
  have o1:=Own.start (base:=base) (H:=H) |>.new f2 b2 (s:=.arr 25 [encN t,encN 0,u,x]) |>.new f4 b4 (s:=.arr 25 [.int .i64 0,.int .i64 0,.nils,.nils])
  simp [make_of f4 b4,hv.isSl,hv.lenM]
  obtain ⟨I,hI⟩ : ∃ I : Nat→Env→BH→Prop,I = (fun i e K => e 12 = encN i∧∃ u x Y,Own base H K ([(some n4,.arr 25 [.int .i64 0,.int .i64 0,.nils,.nils]),(some n2,.arr 25 [encN (t + i),encN 0,u,x])]++Y)∧u.one = true∧x.one = true ∧
    ∀ {K' : BH} {Z : List Sl},Own base H K' (Z++Y)→RdRel K' (t + i) 0 (TA (t + i) (LD (shiftT S (ps.take i)))) (.agg [encN (t + i),encN 0,u,x])):=⟨_,rfl⟩
  refine wpC_countK ps.length [(2,.ptr n2 0),(4,.ptr n4 0),(10,v),(11,encN ps.length)] I (i0:=0) ?_ ?_ ?_ (Nat.zero_le _) ?_
  · rfl
  · simp
  · rw [hI]
    refine ⟨by simp,u,x,[],by simpa using o1,u1,x1,fun {K' Z} o' => ?_⟩
    exact g1.keeps o'.keeps
  clear o1
  rintro i e K hi ⟨e2,e4,e10,e11,-⟩ hh
  rw [hI] at hh
  obtain ⟨e12,u,x,Y,o,u1,x1,hY⟩:=hh
  simp only [] at e2 e4 e10 e11
  have wi:=wS (n:=i) (by omega)
  have r2:=rd_all (o.at 1 (b:=n2) rfl) (n:=4) (rt:=none) rfl rfl
  have hSi : ∀ k∈shiftT S (ps.take i),k < t + i:=fun k hk => by
    have:=shift_lt (ps.take i) hS k hk
    rw [List.length_take] at this
    omega
  by_cases hlt : i < ps.length
  · have gi:=(hv.keeps o.keeps).at (i:=i) (by simpa using hlt) (rt:=none) rfl
    have gi' : K.rd none none (v.sat i 1) = some (encN ps[i]):=by simpa using gi
    simp [e2,e10,e11,e12,hlt,hv.isSl,hv.lenM,gi',r2]
    obtain ⟨hT,hTl⟩:=LD_small (t:=t + i) (by omega) hSi
    have hadd:=i_AddTape (base:=base) (t + i) 0 ps[i] (by omega) (by omega) (hps i hlt) _ (.agg [encN (t + i),encN 0,u,x]) K (hY o) hT.ok hT.ok.pos (by omega)
    refine hadd.step fun r K1 k1 hr => ?_
    have hS1 : ∀ k∈(shiftT S (ps.take i)).map (skipT ps[i]),k < t + i + 1:=skip_lt hSi
    have e1 : addN (t + i) ps[i] ((TA (t + i) (LD (shiftT S (ps.take i)))).lang 0) = (some (TA (t + i + 1) (LD ((shiftT S (ps.take i)).map (skipT ps[i])))),0):=by
      unfold addN
      rw [add_LD (by omega) (hps i hlt) hSi,told_LD (by omega) hS1]
    rw [e1] at hr
    obtain ⟨T1,hT1⟩ : ∃ T1,T1 = t + i + 1:=⟨_,rfl⟩
    rw [← hT1] at hr
    obtain ⟨m',rfl,hm'⟩:=hr
    obtain ⟨Y',oY,hY'⟩:=hm'.rows
    obtain ⟨uu,xx,rfl,huu,hxx⟩:=hm'.rd
    have uu1:=huu.one
    have xx1:=one_of_isSl hxx.isSl
    have oj:=Own.join (o.sub (M:=[(some n4,.arr 25 [.int .i64 0,.int .i64 0,.nils,.nils]),(some n2,.arr 25 [encN (t + i),encN 0,u,x])]) (List.sublist_append_left _ _)) k1 oY
    simp [uu1,xx1]
    intro n8 b8 f8
    have oj : Own base H K1 ((some n4,.arr 25 [.int .i64 0,.int .i64 0,.nils,.nils])::(some n2,.arr 25 [encN (t + i),encN 0,u,x])::Y'):=oj
    obtain ⟨K5,g5,o5⟩:=(oj.new f8 b8 (s:=.arr 25 [.int .i64 0,.int .i64 0,.nils,.nils])).putAll 0 (b:=n8) rfl (n:=4) (ds:=[encN T1,encN 0,uu,xx]) rfl rfl (by simp [uu1,xx1]) (rt:=none) rfl
    have r8:=rd_all (o5.at 0 (b:=n8) rfl) (n:=4) (rt:=none) rfl rfl
    obtain ⟨K6,g6,o6⟩:=o5.putAll 2 (b:=n2) rfl (n:=4) (ds:=[encN T1,encN 0,uu,xx]) rfl rfl (by simp [uu1,xx1]) (rt:=none) rfl
    simp [make_of f8 b8,g5,r8,e2,g6,e12,wi,hlt]
    rw [hI]
    refine ⟨by simp,uu,xx,Y',?_,uu1,xx1,fun {K' Z} o' => ?_⟩
    · have e3 : encN (t + (i + 1)) = encN T1:=by rw [hT1]; rfl
      rw [e3]
      exact o6.tail
    · have h1:=hY' o'
      have e4 : shiftT S (ps.take (i + 1)) = (shiftT S (ps.take i)).map (skipT ps[i]):=by
        rw [List.take_add_one,List.getElem?_eq_getElem hlt]
        exact shiftT_snoc _ _ _
      have e5 : t + (i + 1) = T1:=by omega
      rw [e4,e5]
      exact h1
  · have hie : i = ps.length:=by omega
    subst hie
    rw [List.take_length] at hY
    obtain ⟨K7,g7,o7⟩:=o.putAll 0 (b:=n4) rfl (n:=4) (ds:=[encN (t + ps.length),encN 0,u,x]) rfl rfl (by simp [u1,x1]) (rt:=none) rfl
    have r7:=rd_all (o7.at 0 (b:=n4) rfl) (n:=4) (rt:=none) rfl rfl
    obtain ⟨T1,hT1⟩ : ∃ T1,T1 = t + ps.length:=⟨_,rfl⟩
    rw [← hT1] at r2 g7 r7 o7 hY
    simp [e2,e4,e11,e12,r2,g7,r7]
    rw [hR]
    refine ⟨o7.keeps,_,rfl,?_⟩
    rw [← hT1]
    exact hY (Z:=[(some n4,.arr 25 [encN T1,encN 0,u,x]),(some n2,.arr 25 [encN T1,encN 0,u,x])]) o7
theorem TA_LD {t : Nat} (ht : t≤3) {S : List Nat} (hS : ∀ k∈S,k < t) : TA t ((TA t (LD S)).lang 0) = TA t (LD S):=TA_congr fun cs hc hr => by
  rw [(LD_small ht hS).1.lang hc]
  unfold rl
  rw [hr]
  rfl
theorem join_LD {t : Nat} (ht : t≤3) {S S' : List Nat} (hS : ∀ k∈S,k < t) (hS' : ∀ k∈S',k < t) : joinN t (fun a b => a && b) ((TA t (LD S)).lang 0) ((TA t (LD S')).lang 0) = (some (TA t (LD (S++S'))),0):=by
  obtain ⟨h1,l1⟩:=LD_small ht hS
  obtain ⟨h2,l2⟩:=LD_small ht hS'
  unfold joinN
  rw [TA_LD ht hS,TA_LD ht hS']
  have:=Nat.mul_le_mul l1 l2
  rw [if_neg (by omega)]
  have e : TA t (fun cs => (TA t (LD S)).lang 0 cs && (TA t (LD S')).lang 0 cs) = TA t (LD (S++S')):=TA_congr fun cs hc hr => by
    rw [h1.lang hc,h2.lang hc]
    unfold rl
    rw [hr,← LD_append]
    rfl
  rw [e,told_LD ht]
  intro k hk
  rcases List.mem_append.1 hk with hk | hk
  · exact hS k hk
  · exact hS' k hk
theorem i_bothC (t s1 s2 : Nat) (ht1 : 1≤t) (ht : t≤3) (A B : Aut) (m1 m2 : BV) (H : BH) (hA : RdRel H t s1 A m1) (hB : RdRel H t s2 B m2) (hokA : A.Ok (wd t)) (hokB : B.Ok (wd t)) (hs1 : s1 < A.acc.length) (hs2 : s2 < B.acc.length) (hna : A.acc.length≤150) (hnb : B.acc.length≤150) :
    FnDoes (gam base) 88 [m1,encN 0,m2,encN 0] H fun v K => RelR base H t (joinN t (fun a b => a && b) (A.lang s1) (B.lang s2)) v K:=by
  obtain ⟨R,hR⟩ : ∃ R : BV→BH→Prop,R = fun v K => RelR base H t (joinN t (fun a b => a && b) (A.lang s1) (B.lang s2)) v K:=⟨_,rfl⟩
  rw [← hR]
  refine FnDoes.of (fn:=ir88) rfl ?_
  have g1:=hA
  have g2:=hB
  obtain ⟨u,x,rfl,hu,hx⟩:=hA
  obtain ⟨u',x',rfl,hu',hx'⟩:=hB
  have u1:=hu.one
  have x1:=one_of_isSl hx.isSl
  have u1':=hu'.one
  have x1':=one_of_isSl hx'.isSl
  simp [ir88,u1,x1,u1',x1']
  intro n2 b2 f2
  simp [make_of f2 b2,u1',x1']
  intro n3 b3 f3
  simp [make_of f3 b3]
  intro n4 b4 f4
  have o1:=Own.start (base:=base) (H:=H) |>.new f2 b2 (s:=.arr 25 [encN t,encN s1,u,x]) |>.new f3 b3 (s:=.arr 25 [encN t,encN s2,u',x']) |>.new f4 b4 (s:=.arr 25 [.int .i64 0,.int .i64 0,.nils,.nils])
  have r0:=rd_all (o1.at 2 (b:=n2) rfl) (n:=4) (rt:=none) rfl rfl
  have r1:=rd_all (o1.at 1 (b:=n3) rfl) (n:=4) (rt:=none) rfl rfl
  simp [make_of f4 b4,r0,r1]
  refine (i_both (base:=base) t s1 s2 ht1 ht A B _ _ _ (g1.keeps o1.keeps) (g2.keeps o1.keeps) hokA hokB hs1 hs2 hna hnb).step fun v K2 k2 hv => ?_
  obtain ⟨m,K8,rfl,g8,r8,kk,hrel⟩:=rel_end (base:=base) o1 (i:=0) (n2:=n4) rfl rfl k2 hv
  simp [g8,r8]
  rw [hR]
  exact ⟨kk,hrel⟩
def behindP (t n : Nat) : List Nat:=(List.range n).map fun i => t + i
theorem shift_zeros : ∀ (n : Nat) (S : List Nat),shiftT S (List.replicate n 0) = S.map (· + n)
  | 0,S => by simp [shiftT]
  | n + 1,S => by
    have h0 : skipT 0 = fun k => k + 1:=by funext k; simp [skipT]
    rw [List.replicate_succ]
    show shiftT (S.map (skipT 0)) (List.replicate n 0) = _
    rw [shift_zeros n,h0,List.map_map]
    exact List.map_congr_left fun k _ => by simp only [Function.comp]; omega
theorem skip_id {at_ : Nat} {S : List Nat} (h : ∀ k∈S,k < at_) : S.map (skipT at_) = S:=by
  conv => rhs; rw [← List.map_id S]
  exact List.map_congr_left fun k hk => by simp [skipT,h k hk]
theorem shift_behind {t : Nat} {S : List Nat} (hS : ∀ k∈S,k < t) : ∀ (n : Nat),shiftT S (behindP t n) = S
  | 0 => rfl
  | n + 1 => by
    unfold behindP
    rw [List.range_succ,List.map_append]
    rw [show [n].map (fun i => t + i) = [t + n] from rfl,shiftT_snoc]
    have ih:=shift_behind hS n
    unfold behindP at ih
    rw [ih]
    exact skip_id fun k hk => by have:=hS k hk; omega
theorem i_ProductOf (t1 t2 : Nat) (h1 : 1≤t1) (h2 : 1≤t2) (h12 : t1 + t2≤3) (S1 S2 : List Nat) (hS1 : ∀ k∈S1,k < t1) (hS2 : ∀ k∈S2,k < t2) (m1 m2 : BV) (H : BH) (hA : RdRel H t1 0 (TA t1 (LD S1)) m1) (hB : RdRel H t2 0 (TA t2 (LD S2)) m2) :
    FnDoes (gam base) 201 [m1,m2] H fun v K => RelR base H (t1 + t2) (some (TA (t1 + t2) (LD (S1++S2.map (· + t1)))),0) v K:=by
  obtain ⟨R,hR⟩ : ∃ R : BV→BH→Prop,R = fun v K => RelR base H (t1 + t2) (some (TA (t1 + t2) (LD (S1++S2.map (· + t1)))),0) v K:=⟨_,rfl⟩
  rw [← hR]
  obtain ⟨hT1,hl1⟩:=LD_small (t:=t1) (by omega) hS1
  obtain ⟨hT2,hl2⟩:=LD_small (t:=t2) (by omega) hS2
  refine FnDoes.of (fn:=ir201) rfl ?_
  have g1:=hA
  have g2:=hB
  obtain ⟨u,x,rfl,hu,hx⟩:=hA
  obtain ⟨u',x',rfl,hu',hx'⟩:=hB
  have u1:=hu.one
  have x1:=one_of_isSl hx.isSl
  have u1':=hu'.one
  have x1':=one_of_isSl hx'.isSl
  simp [ir201,u1,x1,u1',x1']
  intro n2 b2 f2
  simp [make_of f2 b2,u1',x1']
  intro n3 b3 f3
  simp [make_of f3 b3]
  intro n4 b4 f4
  have o1:=Own.start (base:=base) (H:=H) |>.new f2 b2 (s:=.arr 25 [encN t1,encN 0,u,x]) |>.new f3 b3 (s:=.arr 25 [encN t2,encN 0,u',x']) |>.new f4 b4 (s:=.arr 25 [.int .i64 0,.int .i64 0,.nils,.nils])
  have r2:=rd_all (o1.at 2 (b:=n2) rfl) (n:=4) (rt:=none) rfl rfl
  have r3:=rd_all (o1.at 1 (b:=n3) rfl) (n:=4) (rt:=none) rfl rfl
  simp [make_of f4 b4,r2]
  refine (i_valid (base:=base) t1 0 _ _ _ _ (g1.keeps o1.keeps).raw (by omega)).step fun v K1 k1 hv => ?_
  rw [show ((0 : Int)) = ((0 : Nat) : Int) from rfl,ok_valid h1 (by omega) hT1.ok hT1.ok.pos (by omega)] at hv
  subst hv
  have o2:=o1.call k1
  have r3:=rd_all (o2.at 1 (b:=n3) rfl) (n:=4) (rt:=none) rfl rfl
  simp [r3]
  refine (i_valid (base:=base) t2 0 _ _ _ _ (g2.keeps o2.keeps).raw (by omega)).step fun v K2 k2 hv => ?_
  rw [show ((0 : Int)) = ((0 : Nat) : Int) from rfl,ok_valid h2 (by omega) hT2.ok hT2.ok.pos (by omega)] at hv
  subst hv
  have o3:=o2.call k2
  have q2:=rd_ptr (o3.at 2 (b:=n2) rfl) (rt:=none) (j:=0) (c:=encN t1) rfl rfl
  have q3:=rd_ptr (o3.at 1 (b:=n3) rfl) (rt:=none) (j:=0) (c:=encN t2) rfl rfl
  have wt : IntKind.i64.wrap ((t1 : Int) + (t2 : Int)) = (t1 : Int) + (t2 : Int):=w64 (by omega) (by omega)
  have hn3 : ¬ (3 : Int) < (t1 : Int) + (t2 : Int):=by omega
  simp [q2,q3,wt,hn3]
  obtain ⟨F,hF⟩ : ∃ F : List Sl,F = [(some n4,.arr 25 [.int .i64 0,.int .i64 0,.nils,.nils]),(some n3,.arr 25 [encN t2,encN 0,u',x']),(some n2,.arr 25 [encN t1,encN 0,u,x])]:=⟨_,rfl⟩
  have o3 : Own base H K2 F:=by rw [hF]; exact o3
  clear o1 o2 r2 r3 q2 q3
  obtain ⟨I,hI⟩ : ∃ I : Nat→Env→BH→Prop,I = (fun i e K => e 8 = encN i∧∃ y yo,e 6 = y∧Own base H K ((yo,.arr 2 ((behindP t1 i).map encN))::F)∧Vec yo y i):=⟨_,rfl⟩
  refine wpC_countK t2 [(2,.ptr n2 0),(3,.ptr n3 0),(4,.ptr n4 0),(7,.nils)] I (i0:=0) ?_ ?_ ?_ (Nat.zero_le _) ?_
  · rfl
  · simp
  · rw [hI]
    exact ⟨by simp,.nils,none,by simp,by simpa [behindP] using o3.nil (.arr 2 []),Vec.none⟩
  clear o3
  rintro i e K hi ⟨e2,e3,e4,e7,-⟩ hh
  rw [hI] at hh
  obtain ⟨e8,y,yo,e6,o,hy⟩:=hh
  simp only [] at e2 e3 e4 e7
  have wi:=wS (n:=i) (by omega)
  have o':=o
  rw [hF] at o'
  have q2:=rd_ptr (o'.at 3 (b:=n2) rfl) (rt:=none) (j:=0) (c:=encN t1) rfl rfl
  have q3:=rd_ptr (o'.at 2 (b:=n3) rfl) (rt:=none) (j:=0) (c:=encN t2) rfl rfl
  by_cases hlt : i < t2
  · have wti : IntKind.i64.wrap ((t1 : Int) + (i : Int)) = (t1 : Int) + (i : Int):=w64 (by omega) (by omega)
    simp [e2,e3,e6,e8,q2,q3,hlt,wti]
    intro n20 b20 f20
    simp [make_of f20 b20]
    intro n21 b21 f21
    have hyl : Vec yo y ((behindP t1 i).map encN).length:=by simpa [behindP] using hy
    obtain ⟨y',M',yo',p1,p2,p3⟩:=o.push 0 rfl hyl (x:=.int .i64 ((t1 : Int) + (i : Int))) (bytes:=8) rfl (by simp [behindP]; omega) (by simp [behindP]; omega) f20 b20 f21 b21
    simp [p1,e8,wi,q3,hlt]
    rw [hI]
    refine ⟨by simp,y',some yo',by simp,?_,by simpa [behindP] using p3⟩
    have e : (behindP t1 (i + 1)).map encN = (behindP t1 i).map encN++[.int .i64 ((t1 : Int) + (i : Int))]:=by simp [behindP,List.range_succ]
    rw [e]
    exact p2
  have hie : i = t2:=by omega
  subst hie
  simp [e3,e8,q3]
  obtain ⟨Fy,hFy⟩ : ∃ Fy : List Sl,Fy = (yo,.arr 2 ((behindP t1 i).map encN))::F:=⟨_,rfl⟩
  rw [← hFy] at o
  obtain ⟨J,hJ⟩ : ∃ J : Nat→Env→BH→Prop,J = (fun j e K => e 9 = encN j∧∃ z zo,e 7 = z∧Own base H K ((zo,.arr 2 ((List.replicate j 0).map encN))::Fy)∧Vec zo z j):=⟨_,rfl⟩
  refine wpC_countK t1 [(2,.ptr n2 0),(3,.ptr n3 0),(4,.ptr n4 0),(6,y)] J (i0:=0) ?_ ?_ ?_ (Nat.zero_le _) ?_
  · rfl
  · simp [e2,e3,e4,e6]
  · rw [hJ]
    exact ⟨by simp,.nils,none,by simp [e7],by simpa using o.nil (.arr 2 []),Vec.none⟩
  clear o o' q2 q3 e2 e3 e4 e6 e7 e8
  rintro j e L hj ⟨e2,e3,e4,e6,-⟩ hh
  rw [hJ] at hh
  obtain ⟨e9,z,zo,e7,o,hz⟩:=hh
  simp only [] at e2 e3 e4 e6
  have wj:=wS (n:=j) (by omega)
  have o':=o
  rw [hFy,hF] at o'
  have q2:=rd_ptr (o'.at 4 (b:=n2) rfl) (rt:=none) (j:=0) (c:=encN t1) rfl rfl
  by_cases hlj : j < t1
  · simp [e2,e7,e9,q2,hlj]
    intro n20 b20 f20
    simp [make_of f20 b20]
    intro n21 b21 f21
    have hzl : Vec zo z ((List.replicate j 0).map encN).length:=by simpa using hz
    obtain ⟨z',M',zo',p1,p2,p3⟩:=o.push 0 rfl hzl (x:=.int .i64 0) (bytes:=8) rfl (by simp; omega) (by simp; omega) f20 b20 f21 b21
    simp [p1,e9,wj,q2,hlj]
    rw [hJ]
    refine ⟨by simp,z',some zo',by simp,?_,by simpa using p3⟩
    have e : (List.replicate (j + 1) 0).map encN = (List.replicate j 0).map encN++[.int .i64 0]:=by rw [List.replicate_succ',List.map_append]; rfl
    rw [e]
    exact p2
  have hjt : j = t1:=by omega
  subst hjt
  have p2:=rd_all (o'.at 4 (b:=n2) rfl) (n:=4) (rt:=none) rfl rfl
  have hry : Rd L 2 y ((behindP j i).map encN):=o'.rd 1 rfl (by simpa [behindP] using hy)
  have hrz : Rd L 2 z ((List.replicate j 0).map encN):=o'.rd 0 rfl (by simpa using hz)
  simp [e2,e6,e9,q2,p2]
  have hbl : (behindP j i).length = i:=by simp [behindP]
  have ha1:=i_addTapes (base:=base) j h1 S1 (behindP j i) hS1 (fun k hk => by simp [behindP]) (by omega) _ y L (g1.keeps o.keeps) hry
  rw [hbl,shift_behind hS1] at ha1
  refine ha1.step fun r K3 k3 hr => ?_
  obtain ⟨m',rfl,hm'⟩:=hr
  obtain ⟨ua,xa,rfl,hua,hxa⟩:=id hm'
  have ua1:=hua.one
  have xa1:=one_of_isSl hxa.isSl
  obtain ⟨T,hT⟩ : ∃ T,T = j + i:=⟨_,rfl⟩
  rw [← hT] at hm'
  have eT : (encN (j + i)) = encN T:=by rw [hT]
  simp only [eT]
  simp [ua1,xa1]
  intro n10 b10 f10
  obtain ⟨K4,g4,o4⟩:=(Own.start (base:=base) (H:=K3) |>.new f10 b10 (s:=.arr 25 [.int .i64 0,.int .i64 0,.nils,.nils])).putAll 0 (b:=n10) rfl (n:=4) (ds:=[encN T,encN 0,ua,xa]) rfl rfl (by simp [ua1,xa1]) (rt:=none) rfl
  have k4:=k3.trans o4.keeps
  have p3:=rd_keeps k4 (rd_all (o'.at 3 (b:=n3) rfl) (n:=4) (rt:=none) rfl rfl)
  simp [make_of f10 b10,g4,e3,e7,p3]
  have ha2:=i_addTapes (base:=base) i h2 S2 (List.replicate j 0) hS2 (fun k hk => by simp) (by simp; omega) _ z K4 ((g2.keeps o.keeps).keeps k4) (hrz.keeps k4)
  rw [List.length_replicate,shift_zeros] at ha2
  refine ha2.step fun r K5 k5 hr => ?_
  obtain ⟨m2',rfl,hm2'⟩:=hr
  obtain ⟨ub,xb,rfl,hub,hxb⟩:=id hm2'
  have ub1:=hub.one
  have xb1:=one_of_isSl hxb.isSl
  have hT2 : i + j = T:=by omega
  rw [hT2] at hm2'
  have eT2 : (encN (i + j)) = encN T:=by rw [hT2]
  simp only [eT2]
  simp [ub1,xb1]
  intro n12 b12 f12
  obtain ⟨K6,g6,o6⟩:=(Own.start (base:=base) (H:=K5) |>.new f12 b12 (s:=.arr 25 [.int .i64 0,.int .i64 0,.nils,.nils])).putAll 0 (b:=n12) rfl (n:=4) (ds:=[encN T,encN 0,ub,xb]) rfl rfl (by simp [ub1,xb1]) (rt:=none) rfl
  have k6:=k5.trans o6.keeps
  have p10:=rd_keeps k6 (rd_all (o4.at 0 (b:=n10) rfl) (n:=4) (rt:=none) rfl rfl)
  have p12:=rd_all (o6.at 0 (b:=n12) rfl) (n:=4) (rt:=none) rfl rfl
  simp [make_of f12 b12,g6,p10,p12]
  have hS1' : ∀ k∈S1,k < T:=fun k hk => by have:=hS1 k hk; omega
  have hS2' : ∀ k∈S2.map (· + j),k < T:=fun k hk => by
    obtain ⟨l,hl,rfl⟩:=List.mem_map.1 hk
    have:=hS2 l hl
    omega
  obtain ⟨hA1,hA2⟩:=LD_small (t:=T) (by omega) hS1'
  obtain ⟨hB1,hB2⟩:=LD_small (t:=T) (by omega) hS2'
  refine (i_bothC (base:=base) T 0 0 (by omega) (by omega) _ _ _ _ K6 (hm'.keeps (o4.keeps.trans k6)) (hm2'.keeps o6.keeps) hA1.ok hB1.ok hA1.ok.pos hB1.ok.pos (by omega) (by omega)).step fun v K7 k7 hv => ?_
  rw [join_LD (by omega) hS1' hS2'] at hv
  obtain ⟨m,K8,e8',g8,r8,kk,hrel⟩:=rel_end (base:=base) (o'.call (k4.trans k6)) (i:=2) (n2:=n4) rfl rfl k7 hv
  subst e8'
  simp [e4,g8,r8]
  rw [hR,← hT]
  exact ⟨kk,hrel⟩
theorem s_ProductOf (t1 t2 : Nat) (h1 : 1≤t1) (h2 : 1≤t2) (h12 : t1 + t2≤3) (S1 S2 : List Nat) (hS1 : ∀ k∈S1,k < t1) (hS2 : ∀ k∈S2,k < t2) (m1 m2 : BV) (H : BH) (hA : RdRel H t1 0 (TA t1 (LD S1)) m1) (hB : RdRel H t2 0 (TA t2 (LD S2)) m2) :
    FnDoes (gam base) 104 [m1,m2] H fun v K => RelR base H (t1 + t2) (some (TA (t1 + t2) (LD (S1++S2.map (· + t1)))),0) v K:=by
  obtain ⟨R,hR⟩ : ∃ R : BV→BH→Prop,R = fun v K => RelR base H (t1 + t2) (some (TA (t1 + t2) (LD (S1++S2.map (· + t1)))),0) v K:=⟨_,rfl⟩
  rw [← hR]
  obtain ⟨hT1,hl1⟩:=LD_small (t:=t1) (by omega) hS1
  obtain ⟨hT2,hl2⟩:=LD_small (t:=t2) (by omega) hS2
  refine FnDoes.of (fn:=ir104) rfl ?_
  have g1:=hA
  have g2:=hB
  obtain ⟨u,x,rfl,hu,hx⟩:=hA
  obtain ⟨u',x',rfl,hu',hx'⟩:=hB
  have u1:=hu.one
  have x1:=one_of_isSl hx.isSl
  have u1':=hu'.one
  have x1':=one_of_isSl hx'.isSl
  simp [ir104,u1,x1,u1',x1']
  intro n2 b2 f2
  simp [make_of f2 b2,u1',x1']
  intro n3 b3 f3
  simp [make_of f3 b3]
  intro n4 b4 f4
  have o1:=Own.start (base:=base) (H:=H) |>.new f2 b2 (s:=.arr 25 [encN t1,encN 0,u,x]) |>.new f3 b3 (s:=.arr 25 [encN t2,encN 0,u',x']) |>.new f4 b4 (s:=.arr 25 [.int .i64 0,.int .i64 0,.nils,.nils])
  have p1 : RdP _ n2 t1 0 (TA t1 (LD S1)):=g1.at o1.keeps (o1.at 2 (b:=n2) rfl)
  have p2 : RdP _ n3 t2 0 (TA t2 (LD S2)):=g2.at o1.keeps (o1.at 1 (b:=n3) rfl)
  simp [make_of f4 b4]
  have c1:=s_ok (base:=base) n2 t1 0 _ _ _ p1.raw (by omega)
  have c2:=s_ok (base:=base) n3 t2 0 _ _ _ p2.raw (by omega)
  rw [show ((0 : Int)) = ((0 : Nat) : Int) from rfl,ok_valid h1 (by omega) hT1.ok hT1.ok.pos (by omega)] at c1
  rw [show ((0 : Int)) = ((0 : Nat) : Int) from rfl,ok_valid h2 (by omega) hT2.ok hT2.ok.pos (by omega)] at c2
  refine callP c1 ?_
  simp
  refine callP c2 ?_
  have q2:=rd_ptr (o1.at 2 (b:=n2) rfl) (rt:=none) (j:=0) (c:=encN t1) rfl rfl
  have q3:=rd_ptr (o1.at 1 (b:=n3) rfl) (rt:=none) (j:=0) (c:=encN t2) rfl rfl
  have wt : IntKind.i64.wrap ((t1 : Int) + (t2 : Int)) = (t1 : Int) + (t2 : Int):=w64 (by omega) (by omega)
  have hn3 : ¬ (3 : Int) < (t1 : Int) + (t2 : Int):=by omega
  simp [q2,q3,wt,hn3]
  refine (s_tidied (base:=base) t1 0 n2 (by omega) _ _ p1 hT1.ok hT1.ok.pos (by omega)).step fun v K1 k1 hv => ?_
  rw [TA_LD (by omega) hS1] at hv
  obtain ⟨Y0,oY0,hY0⟩:=hv.rows
  obtain ⟨v0,y0,rfl,hv0,hy0⟩:=hv.rd
  have v01:=hv0.one
  have y01:=one_of_isSl hy0.isSl
  simp [v01,y01]
  intro n6 b6 f6
  obtain ⟨K2,gg2,o2⟩:=((Own.join o1 k1 oY0).new f6 b6 (s:=.arr 25 [.int .i64 0,.int .i64 0,.nils,.nils])).putAll 0 (b:=n6) rfl (n:=4) (ds:=[encN t1,encN 0,v0,y0]) rfl rfl (by simp [v01,y01]) (rt:=none) rfl
  simp [make_of f6 b6,gg2]
  obtain ⟨F,hF⟩ : ∃ F : List Sl,F = [(some n4,.arr 25 [.int .i64 0,.int .i64 0,.nils,.nils]),(some n3,.arr 25 [encN t2,encN 0,u',x']),(some n2,.arr 25 [encN t1,encN 0,u,x])]:=⟨_,rfl⟩
  obtain ⟨I,hI⟩ : ∃ I : Nat→Env→BH→Prop,I = (fun i e K => e 7 = encN i∧∃ v y Y,Own base H K ((some n6,.arr 25 [encN (t1 + i),encN 0,v,y])::F++Y)∧v.one = true∧y.one = true ∧
    ∀ {H' K' : BH} {Z : List Sl},Own base H' K' (Z++Y)→RdRel K' (t1 + i) 0 (TA (t1 + i) (LD S1)) (.agg [encN (t1 + i),encN 0,v,y])):=⟨_,rfl⟩
  refine wpC_countK t2 [(2,.ptr n2 0),(3,.ptr n3 0),(4,.ptr n4 0),(6,.ptr n6 0)] I (i0:=0) ?_ ?_ ?_ (Nat.zero_le _) ?_
  · rfl
  · simp
  · rw [hI,hF]
    exact ⟨by simp,v0,y0,Y0,o2,v01,y01,fun {H' K' Z} o' => hY0 o'⟩
  clear o1 o2 p1 p2 q2 q3 c1 c2
  rintro i e K hi ⟨e2,e3,e4,e6,-⟩ hh
  rw [hI,hF] at hh
  obtain ⟨e7,v,y,Y,o,v1,y1,hY⟩:=hh
  simp only [] at e2 e3 e4 e6
  have wi:=wS (n:=i) (by omega)
  have q3:=rd_ptr (o.at 2 (b:=n3) rfl) (rt:=none) (j:=0) (c:=encN t2) rfl rfl
  have hSi : ∀ k∈S1,k < t1 + i:=fun k hk => by have:=hS1 k hk; omega
  by_cases hlt : i < t2
  · have q6:=rd_ptr (o.at 0 (b:=n6) rfl) (rt:=none) (j:=0) (c:=encN (t1 + i)) rfl rfl
    have p6 : RdP K n6 (t1 + i) 0 (TA (t1 + i) (LD S1)):=(hY o).at (BH.Keeps.refl _) (o.at 0 (b:=n6) rfl)
    obtain ⟨hT,hTl⟩:=LD_small (t:=t1 + i) (by omega) hSi
    obtain ⟨T0,hT0⟩ : ∃ T0,T0 = t1 + i:=⟨_,rfl⟩
    rw [← hT0] at q6 p6 hT hTl hSi o
    simp [e3,e6,e7,q3,hlt,q6]
    refine (s_added (base:=base) T0 0 T0 n6 (by omega) (by omega) _ K p6 hT.ok hT.ok.pos (by omega)).step fun m K3 k3 hm => ?_
    rw [add_LD (by omega) (by omega) hSi,skip_id hSi] at hm
    obtain ⟨Y',oY',hY'⟩:=hm.rows
    obtain ⟨T1,hT1'⟩ : ∃ T1,T1 = T0 + 1:=⟨_,rfl⟩
    rw [← hT1'] at hm hY'
    obtain ⟨v',y',rfl,hv',hy'⟩:=hm.rd
    have v1':=hv'.one
    have y1':=one_of_isSl hy'.isSl
    obtain ⟨K5,g5,o5⟩:=(Own.join (o.sub (M:=(some n6,.arr 25 [encN T0,encN 0,v,y])::F) (by rw [hF]; exact List.sublist_append_left _ _)) k3 oY').putAll 0 (b:=n6) rfl (n:=4) (ds:=[encN T1,encN 0,v',y']) rfl rfl (by simp [v1',y1']) (rt:=none) rfl
    have q3':=rd_ptr (o5.at 2 (b:=n3) (by rw [hF]; rfl)) (rt:=none) (j:=0) (c:=encN t2) rfl rfl
    simp [e6,g5,e7,wi,e3,q3',hlt]
    rw [hI]
    refine ⟨by simp,v',y',Y',?_,v1',y1',fun {H' K' Z} o' => ?_⟩
    · have e5 : t1 + (i + 1) = T1:=by omega
      rw [e5]
      exact o5
    · have e5 : t1 + (i + 1) = T1:=by omega
      rw [e5]
      exact hY' o'
  have hie : i = t2:=by omega
  subst hie
  have p6 : RdP K n6 (t1 + i) 0 (TA (t1 + i) (LD S1)):=(hY o).at (BH.Keeps.refl _) (o.at 0 (b:=n6) rfl)
  have p3 : RdP K n3 i 0 (TA i (LD S2)):=g2.at o.keeps (o.at 2 (b:=n3) rfl)
  have q2:=rd_ptr (o.at 3 (b:=n2) rfl) (rt:=none) (j:=0) (c:=encN t1) rfl rfl
  simp [e3,e7,q3]
  refine (s_tidied (base:=base) i 0 n3 (by omega) _ _ p3 hT2.ok hT2.ok.pos (by omega)).step fun w K1 k1 hw => ?_
  rw [TA_LD (by omega) hS2] at hw
  obtain ⟨Y1,oY1,hY1⟩:=hw.rows
  obtain ⟨v1',y1',rfl,hv1,hy1⟩:=hw.rd
  have v11:=hv1.one
  have y11:=one_of_isSl hy1.isSl
  simp [v11,y11]
  intro n8 b8 f8
  obtain ⟨K2,gg2,o2⟩:=(oY1.new f8 b8 (s:=.arr 25 [.int .i64 0,.int .i64 0,.nils,.nils])).putAll 0 (b:=n8) rfl (n:=4) (ds:=[encN i,encN 0,v1',y1']) rfl rfl (by simp [v11,y11]) (rt:=none) rfl
  simp [make_of f8 b8,gg2]
  obtain ⟨J,hJ⟩ : ∃ J : Nat→Env→BH→Prop,J = (fun j e L => e 9 = encN j∧∃ v y Y,Own base K L ((some n8,.arr 25 [encN (i + j),encN 0,v,y])::Y)∧v.one = true∧y.one = true ∧
    ∀ {H' K' : BH} {Z : List Sl},Own base H' K' (Z++Y)→RdRel K' (i + j) 0 (TA (i + j) (LD (S2.map (· + j)))) (.agg [encN (i + j),encN 0,v,y])):=⟨_,rfl⟩
  refine wpC_countK t1 [(2,.ptr n2 0),(4,.ptr n4 0),(6,.ptr n6 0),(8,.ptr n8 0)] J (i0:=0) ?_ ?_ ?_ (Nat.zero_le _) ?_
  · rfl
  · simp [e2,e4,e6]
  · rw [hJ]
    refine ⟨by simp,v1',y1',Y1,o2,v11,y11,fun {H' K' Z} o' => ?_⟩
    have:=hY1 o'
    simpa using this
  clear oY1 o2 gg2 e2 e3 e4 e6 e7
  rintro j e L hj ⟨e2,e4,e6,e8,-⟩ hh
  rw [hJ] at hh
  obtain ⟨e9,w,z,Y2,oL,w1,z1,hY2⟩:=hh
  simp only [] at e2 e4 e6 e8
  have wj:=wS (n:=j) (by omega)
  have q2':=rd_keeps oL.keeps q2
  have hSj : ∀ k∈S2.map (· + j),k < i + j:=fun k hk => by
    obtain ⟨l,hl,rfl⟩:=List.mem_map.1 hk
    have:=hS2 l hl
    omega
  have p8 : RdP L n8 (i + j) 0 (TA (i + j) (LD (S2.map (· + j)))):=(hY2 (Z:=[(some n8,.arr 25 [encN (i + j),encN 0,w,z])]) oL).at (BH.Keeps.refl _) (oL.at 0 (b:=n8) rfl)
  by_cases hlj : j < t1
  · obtain ⟨hT,hTl⟩:=LD_small (t:=i + j) (by omega) hSj
    obtain ⟨T0,hT0⟩ : ∃ T0,T0 = i + j:=⟨_,rfl⟩
    rw [← hT0] at p8 hT hTl hSj oL
    simp [e2,e8,e9,q2',hlj]
    refine (s_added (base:=base) T0 0 0 n8 (by omega) (by omega) _ L p8 hT.ok hT.ok.pos (by omega)).step fun m K3 k3 hm => ?_
    rw [add_LD (by omega) (by omega) hSj] at hm
    have hmap : (S2.map (· + j)).map (skipT 0) = S2.map (· + (j + 1)):=by
      rw [List.map_map]
      exact List.map_congr_left fun k _ => by simp [Function.comp,skipT]; omega
    rw [hmap] at hm
    obtain ⟨Y',oY',hY'⟩:=hm.rows
    obtain ⟨T1,hT1'⟩ : ∃ T1,T1 = T0 + 1:=⟨_,rfl⟩
    rw [← hT1'] at hm hY'
    obtain ⟨v',y',rfl,hv',hy'⟩:=hm.rd
    have v1':=hv'.one
    have y1':=one_of_isSl hy'.isSl
    obtain ⟨K5,g5,o5⟩:=(Own.join (o:=oL.sub (M:=[(some n8,.arr 25 [encN T0,encN 0,w,z])]) (.cons_cons _ (List.nil_sublist _))) k3 oY').putAll 0 (b:=n8) rfl (n:=4) (ds:=[encN T1,encN 0,v',y']) rfl rfl (by simp [v1',y1']) (rt:=none) rfl
    have q2'':=rd_keeps o5.keeps q2
    simp [e8,g5,e9,wj,e2,q2'',hlj]
    rw [hJ]
    have e5 : i + (j + 1) = T1:=by omega
    refine ⟨by simp,v',y',Y',?_,v1',y1',fun {H' K' Z} o' => ?_⟩
    · rw [e5]
      exact o5
    · rw [e5]
      exact hY' o'
  · have hjt : j = t1:=by omega
    subst hjt
    have hS1' : ∀ k∈S1,k < j + i:=fun k hk => by have:=hS1 k hk; omega
    rw [Nat.add_comm i j] at p8 hSj
    obtain ⟨T,hT⟩ : ∃ T,T = j + i:=⟨_,rfl⟩
    rw [← hT] at p6 p8 hSj hS1'
    obtain ⟨hA1,hA2⟩:=LD_small (t:=T) (by omega) hS1'
    obtain ⟨hB1,hB2⟩:=LD_small (t:=T) (by omega) hSj
    simp [e2,e6,e8,e9,q2']
    have hjn:=s_joined (base:=base) T 0 0 1 n6 n8 (by omega) _ _ L (p6.keeps oL.keeps) p8 hA1.ok hB1.ok hA1.ok.pos hB1.ok.pos (by omega) (by omega)
    rw [opW_1,join_LD (by omega) hS1' hSj] at hjn
    refine hjn.step fun r K7 k7 hr => ?_
    obtain ⟨m,K8,e8',g8,r8,kk,hrel⟩:=rel_end (base:=base) (o.call oL.keeps) (i:=1) (n2:=n4) rfl rfl k7 hr
    subst e8'
    simp [e4,g8,r8]
    rw [hR,← hT]
    exact ⟨kk,hrel⟩
theorem LD_dom : TA 1 domL = TA 1 (LD [0]):=TA_congr fun cs hc _ => domL_LD hc
theorem range_cons (i : Nat) : ([0] : List Nat)++(List.range i).map (· + 1) = List.range (i + 1):=by
  rw [List.range_succ_eq_map]
  rfl
theorem rd_part {H : BH} {b ty n : Nat} {cs ds : List BV} (h : H.row b = .arr ty cs) (hn : n≤cs.length) (hd : cs.take n = ds) : H.rd none (some n) (.ptr b 0) = some (.agg ds):=by
  simp [BH.rd,h,rtOk,hn,asm,hd]
theorem i_frame (n : Nat) (h1 : 1≤n) (hn : n≤3) (s : ByteArray) (hs : s.size = n) (u x w : BV) (H : BH) (hw : w.one = true) (hA : RdRel H 1 0 (TA 1 (LD [0])) (.agg [encN 1,encN 0,u,x])) :
    FnDoes (gam base) 149 [.agg [encN 1,encN 0,u,x,w],.str s] H fun v K => ∃ m,v = .tup [m,encN 0]∧RdRel K n 0 (TA n (LD (List.range n))) m:=by
  obtain ⟨R,hR⟩ : ∃ R : BV→BH→Prop,R = fun v K => ∃ m,v = .tup [m,encN 0]∧RdRel K n 0 (TA n (LD (List.range n))) m:=⟨_,rfl⟩
  rw [← hR]
  refine FnDoes.of (fn:=ir149) rfl ?_
  obtain ⟨u1,x1⟩:=hA.one
  simp [ir149,u1,x1,hw]
  intro n2 b2 f2
  simp [make_of f2 b2]
  intro n4 b4 f4
  have o1:=Own.start (base:=base) (H:=H) |>.new f2 b2 (s:=.arr 134 [encN 1,encN 0,u,x,w]) |>.new f4 b4 (s:=.arr 25 [.int .i64 0,.int .i64 0,.nils,.nils])
  simp [make_of f4 b4]
  have r2 : (((H.set n2 (.arr 134 [encN 1,encN 0,u,x,w])).set n4 (.arr 25 [.int .i64 0,.int .i64 0,.nils,.nils]))).rd none (some 4) (.ptr n2 0) = some (.agg [.int .i64 1,.int .i64 0,u,x]):=rd_part (o1.at 1 (b:=n2) rfl) (by simp) rfl
  simp [r2,u1,x1]
  intro n6 b6 f6
  obtain ⟨K1,g1,o2⟩:=(o1.new f6 b6 (s:=.arr 25 [.int .i64 0,.int .i64 0,.nils,.nils])).putAll 0 (b:=n6) rfl (n:=4) (ds:=[.int .i64 1,.int .i64 0,u,x]) rfl rfl (by simp [u1,x1]) (rt:=none) rfl
  have r6:=rd_all (o2.at 0 (b:=n6) rfl) (n:=4) (rt:=none) rfl rfl
  simp [make_of f6 b6,g1,r6]
  intro n7 b7 f7
  obtain ⟨K2,g2,o3⟩:=(o2.new f7 b7 (s:=.arr 25 [.int .i64 0,.int .i64 0,.nils,.nils])).putAll 0 (b:=n7) rfl (n:=4) (ds:=[.int .i64 1,.int .i64 0,u,x]) rfl rfl (by simp [u1,x1]) (rt:=none) rfl
  simp [make_of f7 b7,g2]
  obtain ⟨F,hF⟩ : ∃ F : List Sl,F = [(some n6,.arr 25 [.int .i64 1,.int .i64 0,u,x]),(some n4,.arr 25 [.int .i64 0,.int .i64 0,.nils,.nils])]:=⟨_,rfl⟩
  obtain ⟨I,hI⟩ : ∃ I : Nat→Env→BH→Prop,I = (fun i e K => e 8 = encN i∧1≤i∧∃ v y Y,Own base H K ((some n7,.arr 25 [encN i,encN 0,v,y])::F++Y)∧v.one = true∧y.one = true ∧
    ∀ {K' : BH} {Z : List Sl},Own base H K' (Z++Y)→RdRel K' i 0 (TA i (LD (List.range i))) (.agg [encN i,encN 0,v,y])):=⟨_,rfl⟩
  refine wpC_countK n [(1,.str s),(4,.ptr n4 0),(6,.ptr n6 0),(7,.ptr n7 0)] I (i0:=1) ?_ ?_ ?_ h1 ?_
  · rfl
  · simp
  · rw [hI,hF]
    refine ⟨by simp,Nat.le_refl _,u,x,[],?_,u1,x1,fun {K' Z} o' => hA.keeps o'.keeps⟩
    have o4 : Own base H K2 ([(some n7,.arr 25 [encN 1,encN 0,u,x]),(some n6,.arr 25 [.int .i64 1,.int .i64 0,u,x]),(some n4,.arr 25 [.int .i64 0,.int .i64 0,.nils,.nils])]):=o3.sub (.cons_cons _ (.cons_cons _ (.cons_cons _ (List.nil_sublist _))))
    simpa using o4
  clear o1 o2 o3 g1 g2 r2 r6
  rintro i e K hi ⟨e1,e4,e6,e7,-⟩ hh
  rw [hI,hF] at hh
  obtain ⟨e8,hi1,v,y,Y,o,v1,y1,hY⟩:=hh
  simp only [] at e1 e4 e6 e7
  have wi:=wS (n:=i) (by omega)
  have r6:=rd_all (o.at 1 (b:=n6) rfl) (n:=4) (rt:=none) rfl rfl
  have r7:=rd_all (o.at 0 (b:=n7) rfl) (n:=4) (rt:=none) rfl rfl
  by_cases hlt : i < n
  · simp [e1,e6,e7,e8,hs,hlt,r6,r7]
    have hp:=i_ProductOf (base:=base) 1 i (by omega) hi1 (by omega) [0] (List.range i) (by simp) (fun k hk => List.mem_range.1 hk) _ _ K (hA.keeps o.keeps) (hY o)
    rw [range_cons] at hp
    refine hp.step fun r K3 k3 hr => ?_
    obtain ⟨m',rfl,hm'⟩:=hr
    obtain ⟨T,hT⟩ : ∃ T,T = 1 + i:=⟨_,rfl⟩
    rw [← hT] at hm'
    obtain ⟨Y',oY,hY'⟩:=hm'.rows
    obtain ⟨uu,xx,rfl,huu,hxx⟩:=hm'.rd
    have uu1:=huu.one
    have xx1:=one_of_isSl hxx.isSl
    simp [uu1,xx1]
    intro n9 b9 f9
    have oj:=Own.join (o.sub (M:=[(some n7,.arr 25 [encN i,encN 0,v,y]),(some n6,.arr 25 [.int .i64 1,.int .i64 0,u,x]),(some n4,.arr 25 [.int .i64 0,.int .i64 0,.nils,.nils])]) (List.sublist_append_left _ _)) k3 oY
    obtain ⟨K5,g5,o5⟩:=(oj.new f9 b9 (s:=.arr 25 [.int .i64 0,.int .i64 0,.nils,.nils])).putAll 0 (b:=n9) rfl (n:=4) (ds:=[encN T,encN 0,uu,xx]) rfl rfl (by simp [uu1,xx1]) (rt:=none) rfl
    have r9:=rd_all (o5.at 0 (b:=n9) rfl) (n:=4) (rt:=none) rfl rfl
    obtain ⟨K6,g6,o6⟩:=o5.putAll 1 (b:=n7) rfl (n:=4) (ds:=[encN T,encN 0,uu,xx]) rfl rfl (by simp [uu1,xx1]) (rt:=none) rfl
    simp [make_of f9 b9,g5,r9,e7,g6,e8,wi,hlt]
    rw [hI,hF]
    have e5 : i + 1 = T:=by omega
    refine ⟨by simp,by omega,uu,xx,Y',?_,uu1,xx1,fun {K' Z} o' => ?_⟩
    · rw [e5]
      exact o6.tail
    · have:=hY' o'
      rw [e5] at this ⊢
      exact this
  · have hin : i = n:=by omega
    subst hin
    obtain ⟨K7,g7,o7⟩:=o.putAll 2 (b:=n4) rfl (n:=4) (ds:=[encN i,encN 0,v,y]) rfl rfl (by simp [v1,y1]) (rt:=none) rfl
    have r4:=rd_all (o7.at 2 (b:=n4) rfl) (n:=4) (rt:=none) rfl rfl
    simp [e1,e4,e7,e8,hs,r7,g7,r4]
    rw [hR]
    exact ⟨o7.keeps,_,rfl,hY (Z:=[(some n7,.arr 25 [encN i,encN 0,v,y]),(some n6,.arr 25 [.int .i64 1,.int .i64 0,u,x]),(some n4,.arr 25 [encN i,encN 0,v,y])]) o7⟩
theorem Rd.off {H K : BH} {ty : Nat} {v : BV} {cs : List BV} (h : Rd H ty v cs) (k : ∀ b cs',H.row b = .arr ty cs'→K.row b = .arr ty cs') : Rd K ty v cs:=by
  refine ⟨Sls.isSl h,Sls.len h,fun i x hx => ?_⟩
  obtain ⟨b,o,cs',e1,e2,e3,e4⟩:=Sls.get h i x hx
  exact ⟨b,o,cs',e1,k b cs' e2,e3,e4⟩
theorem RdRel.off {H K : BH} {t s : Nat} {A : Aut} {m : BV} (h : RdRel H t s A m) (k : ∀ b ty cs',ty≠25→H.row b = .arr ty cs'→K.row b = .arr ty cs') : RdRel K t s A m:=by
  obtain ⟨u,x,e,hu,vs,hvs,hl,hr⟩:=h
  refine ⟨u,x,e,hu.off fun b cs' => k b _ cs' (by decide),vs,hvs.off fun b cs' => k b _ cs' (by decide),hl,fun i w xs hw hx => ?_⟩
  exact (hr i w xs hw hx).off fun b cs' => k b _ cs' (by decide)
theorem rel_store {H K K3 : BH} {n2 i t : Nat} {L : List Sl} {zs : List BV} {A : Aut} {m : BV} (o : Own base H K L) (hL : L[i]? = some (some n2,.arr 25 zs)) (hz : zs.length = 4) (k : K.Keeps K3) (hm : RdRel K3 t 0 A m) :
    ∃ K7,K3.wr base none 4 (.ptr n2 0) m = some K7∧K7.rd none (some 4) (.ptr n2 0) = some m∧H.Keeps K7∧RdRel K7 t 0 A m:=by
  have o3:=o.call k
  obtain ⟨h1,h2,h3,h4⟩:=o3.row _ (List.mem_of_getElem? hL) n2 rfl
  obtain ⟨u,x,e,hu,hx⟩:=id hm
  have u1:=hu.one
  have x1:=one_of_isSl hx.isSl
  have hall : ([encN t,encN 0,u,x] : List BV).all BV.one = true:=by simp [u1,x1]
  have hw : K3.wr base none 4 (.ptr n2 0) (.agg [encN t,encN 0,u,x]) = some (K3.set n2 (.arr 25 [encN t,encN 0,u,x])):=by
    rw [wr_row (v:=.agg [encN t,encN 0,u,x]) (n:=4) h1 rfl h2 (by rw [cells_agg]; rfl) (by omega) (by rw [cells_agg]; exact hall),cells_agg]
    simp only [List.take_zero,List.nil_append,Nat.zero_add]
    rw [List.drop_eq_nil_of_le (by omega),List.append_nil]
  have o7:=o3.upd i (s':=.arr 25 [encN t,encN 0,u,x]) hL
  have hi : i < L.length:=(List.getElem?_eq_some_iff.1 hL).1
  have h7 : (L.set i (some n2,.arr 25 [encN t,encN 0,u,x]))[i]? = some (some n2,.arr 25 [encN t,encN 0,u,x]):=by simp [hi]
  rw [e]
  refine ⟨_,hw,rd_all (o7.at i h7) rfl rfl,o7.keeps,?_⟩
  rw [← e]
  refine hm.off fun b ty cs' hty hb => ?_
  have hne : b≠n2:=by
    rintro rfl
    rw [h1] at hb
    cases hb
    exact hty rfl
  rw [BH.row_set_ne _ _ hne]
  exact hb
theorem i_presented (a b c d w : BV) (H : BH) (ha : a.one = true) (hb : b.one = true) (hc : c.one = true) (hd : d.one = true) (hw : w.one = true) :
    FnDoes (gam base) 41 [.agg [a,b,c,d],w] H fun v _ => v = .agg [a,b,c,d,w]:=by
  refine FnDoes.of (fn:=ir41) rfl ?_
  simp [ir41,ha,hb,hc,hd,hw]
  intro n2 b2 f2
  simp [make_of f2 b2]
  intro n4 b4 f4
  have o1:=Own.start (base:=base) (H:=H) |>.new f2 b2 (s:=.arr 25 [a,b,c,d]) |>.new f4 b4 (s:=.arr 28 [.int .i64 0,.int .i64 0,.nils,.nils,.nils])
  have r2:=rd_all (o1.at 1 (b:=n2) rfl) (n:=4) (rt:=none) rfl rfl
  obtain ⟨K1,g1,o2⟩:=o1.putAll 0 (b:=n4) rfl (n:=5) (ds:=[a,b,c,d,w]) rfl rfl (by simp [ha,hb,hc,hd,hw]) (rt:=none) rfl
  have r4:=rd_all (o2.at 0 (b:=n4) rfl) (n:=5) (rt:=none) rfl rfl
  simp [make_of f4 b4,r2,ha,hb,hc,hd,hw,g1,r4,cells_one hw]
  exact o2.keeps
theorem i_numberFrame (n : Nat) (h1 : 1≤n) (hn : n≤3) (H : BH) : FnDoes (gam base) 99 [encN n] H fun v K => ∃ m,v = .tup [m,encN 0]∧RdRel K n 0 (TA n (LD (List.range n))) m:=by
  obtain ⟨R,hR⟩ : ∃ R : BV→BH→Prop,R = fun v K => ∃ m,v = .tup [m,encN 0]∧RdRel K n 0 (TA n (LD (List.range n))) m:=⟨_,rfl⟩
  rw [← hR]
  refine FnDoes.of (fn:=ir99) rfl ?_
  simp [ir99]
  intro n2 b2 f2
  have o1:=Own.start (base:=base) (H:=H) |>.new f2 b2 (s:=.arr 25 [.int .i64 0,.int .i64 0,.nils,.nils])
  have hn' : n≤({ data:=#[120,121,122] } : ByteArray).size:=hn
  have hsz : (({ data:=#[120,121,122] } : ByteArray).extract 0 n).size = n:=by
    rw [ByteArray.size_extract]
    have : ({ data:=#[120,121,122] } : ByteArray).size = 3:=rfl
    omega
  obtain ⟨s,hs⟩ : ∃ s,s = ({ data:=#[120,121,122] } : ByteArray).extract 0 n:=⟨_,rfl⟩
  rw [← hs] at hsz
  simp [make_of f2 b2,hn',← hs]
  refine (i_domain (base:=base) _).step fun m K1 k1 hm => ?_
  rw [LD_dom] at hm
  have hm:=hm.rd
  obtain ⟨u,x,rfl,hu,hx⟩:=id hm
  have u1:=hu.one
  have x1:=one_of_isSl hx.isSl
  simp
  refine (i_presented (base:=base) (encN 1) (encN 0) u x .nils K1 rfl rfl u1 x1 rfl).step fun p K2 k2 hp => ?_
  subst hp
  simp [u1,x1]
  have hf:=i_frame (base:=base) n h1 hn s hsz u x .nils K2 rfl (hm.keeps k2)
  refine hf.step fun r K3 k3 hr => ?_
  obtain ⟨m',rfl,hm'⟩:=hr
  have o3:=((o1.call k1).call k2)
  obtain ⟨K7,g7,r7,kk,hrd⟩:=rel_store (base:=base) o3 (i:=0) (n2:=n2) rfl rfl k3 hm'
  simp [g7,r7]
  rw [hR]
  exact ⟨kk,_,rfl,hrd⟩
theorem s_TidyRelation (t s : Nat) (ht1 : 1≤t) (ht : t≤3) (A : Aut) (m : BV) (H : BH) (hA : RdRel H t s A m) (hok : A.Ok (wd t)) (hs : s < A.acc.length) (hn : A.acc.length≤150) :
    FnDoes (gam base) 103 [m] H fun v K => RelR base H t (told (TA t (A.lang s))) v K:=by
  obtain ⟨R,hR⟩ : ∃ R : BV→BH→Prop,R = fun v K => RelR base H t (told (TA t (A.lang s))) v K:=⟨_,rfl⟩
  rw [← hR]
  refine FnDoes.of (fn:=ir103) rfl ?_
  have g1:=hA
  obtain ⟨u,x,rfl,hu,hx⟩:=hA
  have u1:=hu.one
  have x1:=one_of_isSl hx.isSl
  simp [ir103,u1,x1]
  intro n1 b1 f1
  simp [make_of f1 b1]
  intro n2 b2 f2
  have o1:=Own.start (base:=base) (H:=H) |>.new f1 b1 (s:=.arr 25 [encN t,encN s,u,x]) |>.new f2 b2 (s:=.arr 25 [.int .i64 0,.int .i64 0,.nils,.nils])
  have p1 : RdP _ n1 t s A:=g1.at o1.keeps (o1.at 1 (b:=n1) rfl)
  simp [make_of f2 b2]
  have c1:=s_ok (base:=base) n1 t s _ _ _ p1.raw (by omega)
  rw [ok_valid ht1 ht hok hs hn] at c1
  refine callP c1 ?_
  simp
  refine (s_tidied (base:=base) t s n1 ht A _ p1 hok hs (by omega)).step fun v K2 k2 hv => ?_
  simp
  have hl:=(TA_spec ht hok hs).2
  refine (s_toldR (base:=base) t _ v _ K2 hv (by omega)).step fun v3 K3 k3 hv3 => ?_
  obtain ⟨m,K8,rfl,g8,r8,kk,hrel⟩:=rel_end (base:=base) o1 (i:=0) (n2:=n2) rfl rfl (k2.trans k3) hv3
  simp [g8,r8]
  rw [hR]
  exact ⟨kk,hrel⟩
theorem s_frame (n p : Nat) (h1 : 1≤n) (hn : n≤3) (u x w : BV) (H : BH) (hp : H.row p = .arr 28 [encN 1,encN 0,u,x,w]) (hA : RdRel H 1 0 (TA 1 (LD [0])) (.agg [encN 1,encN 0,u,x])) :
    FnDoes (gam base) 52 [.ptr p 0,encN n] H fun v K => ∃ m,v = .tup [m,encN 0]∧RdRel K n 0 (TA n (LD (List.range n))) m:=by
  obtain ⟨R,hR⟩ : ∃ R : BV→BH→Prop,R = fun v K => ∃ m,v = .tup [m,encN 0]∧RdRel K n 0 (TA n (LD (List.range n))) m:=⟨_,rfl⟩
  rw [← hR]
  refine FnDoes.of (fn:=ir52) rfl ?_
  obtain ⟨hT,hTl⟩:=LD_small (t:=1) (S:=[0]) (by omega) (by simp)
  have rp : H.rd none (some 4) (.ptr p 0) = some (.agg [encN 1,encN 0,u,x]):=rd_part hp (by simp) rfl
  obtain ⟨D,hD⟩ : ∃ D : BV,D = .agg [encN 1,encN 0,u,x]:=⟨_,rfl⟩
  rw [← hD] at rp hA
  simp [ir52]
  intro n4 b4 f4
  have o1:=Own.start (base:=base) (H:=H) |>.new f4 b4 (s:=.arr 25 [.int .i64 0,.int .i64 0,.nils,.nils])
  have rp1:=rd_keeps o1.keeps rp
  simp [make_of f4 b4,rp1]
  refine (s_TidyRelation (base:=base) 1 0 (by omega) (by omega) _ D _ (hA.keeps o1.keeps) hT.ok hT.ok.pos (by omega)).step fun r K1 k1 hr => ?_
  rw [TA_LD (by omega) (by simp),told_LD (by omega) (by simp)] at hr
  obtain ⟨m',rfl,hm'⟩:=hr
  obtain ⟨Y0,oY0,hY0⟩:=hm'.rows
  obtain ⟨u0,x0,rfl,hu0,hx0⟩:=hm'.rd
  have u01:=hu0.one
  have x01:=one_of_isSl hx0.isSl
  obtain ⟨T,hT1⟩ : ∃ T,T = 1:=⟨_,rfl⟩
  simp [u01,x01]
  intro n6 b6 f6
  obtain ⟨K2,g2,o2⟩:=((Own.join o1 k1 oY0).new f6 b6 (s:=.arr 25 [.int .i64 0,.int .i64 0,.nils,.nils])).putAll 0 (b:=n6) rfl (n:=4) (ds:=[encN 1,encN 0,u0,x0]) rfl rfl (by simp [u01,x01]) (rt:=none) rfl
  simp [make_of f6 b6,g2]
  obtain ⟨I,hI⟩ : ∃ I : Nat→Env→BH→Prop,I = (fun i e K => e 8 = encN i∧e 7 = encN 0∧1≤i∧∃ v y Y,Own base H K ([(some n6,.arr 25 [encN i,encN 0,v,y]),(some n4,.arr 25 [.int .i64 0,.int .i64 0,.nils,.nils])]++Y)∧v.one = true∧y.one = true ∧
    ∀ {H' K' : BH} {Z : List Sl},Own base H' K' (Z++Y)→RdRel K' i 0 (TA i (LD (List.range i))) (.agg [encN i,encN 0,v,y])):=⟨_,rfl⟩
  refine wpC_countK n [(0,.ptr p 0),(1,encN n),(4,.ptr n4 0),(6,.ptr n6 0)] I (i0:=1) ?_ ?_ ?_ h1 ?_
  · rfl
  · simp
  · rw [hI]
    refine ⟨by simp,by simp,Nat.le_refl _,u0,x0,Y0,?_,u01,x01,fun {H' K' Z} o' => hY0 o'⟩
    exact o2
  clear o1 o2 g2 rp1
  rintro i e K hi ⟨e0,e1,e4,e6,-⟩ hh
  rw [hI] at hh
  obtain ⟨e8,e7,hi1,v,y,Y,o,v1,y1,hY⟩:=hh
  simp only [] at e0 e1 e4 e6
  have wi:=wS (n:=i) (by omega)
  have rpK:=rd_keeps o.keeps rp
  have r6:=rd_all (o.at 0 (b:=n6) rfl) (n:=4) (rt:=none) rfl rfl
  by_cases hlt : i < n
  · simp [e0,e1,e6,e7,e8,hlt,rpK,r6]
    have hpr:=s_ProductOf (base:=base) 1 i (by omega) hi1 (by omega) [0] (List.range i) (by simp) (fun k hk => List.mem_range.1 hk) D _ K (hA.keeps o.keeps) (hY o)
    rw [range_cons] at hpr
    refine hpr.step fun r K3 k3 hr => ?_
    obtain ⟨m',rfl,hm'⟩:=hr
    obtain ⟨T,hT⟩ : ∃ T,T = 1 + i:=⟨_,rfl⟩
    rw [← hT] at hm'
    obtain ⟨Y',oY,hY'⟩:=hm'.rows
    obtain ⟨uu,xx,rfl,huu,hxx⟩:=hm'.rd
    have uu1:=huu.one
    have xx1:=one_of_isSl hxx.isSl
    obtain ⟨K5,g5,o5⟩:=(Own.join (o.sub (M:=[(some n6,.arr 25 [encN i,encN 0,v,y]),(some n4,.arr 25 [.int .i64 0,.int .i64 0,.nils,.nils])]) (List.sublist_append_left _ _)) k3 oY).putAll 0 (b:=n6) rfl (n:=4) (ds:=[encN T,encN 0,uu,xx]) rfl rfl (by simp [uu1,xx1]) (rt:=none) rfl
    simp [e6,g5,e8,wi,hlt]
    rw [hI]
    have e5 : i + 1 = T:=by omega
    refine ⟨by simp,by simp,by omega,uu,xx,Y',?_,uu1,xx1,fun {H' K' Z} o' => ?_⟩
    · rw [e5]
      exact o5
    · have:=hY' o'
      rw [e5] at this ⊢
      exact this
  · have hin : i = n:=by omega
    subst hin
    obtain ⟨K7,g7,o7⟩:=o.putAll 1 (b:=n4) rfl (n:=4) (ds:=[encN i,encN 0,v,y]) rfl rfl (by simp [v1,y1]) (rt:=none) rfl
    have r4:=rd_all (o7.at 1 (b:=n4) rfl) (n:=4) (rt:=none) rfl rfl
    simp [e1,e4,e6,e7,e8,r6,g7,r4]
    rw [hR]
    exact ⟨o7.keeps,_,rfl,hY (Z:=[(some n6,.arr 25 [encN i,encN 0,v,y]),(some n4,.arr 25 [encN i,encN 0,v,y])]) o7⟩
def sumN (terms : List Int) (c : Nat) : Nat→Int
  | 0 => 0
  | n + 1 => sumN terms c n + if dg c n = 1 then terms.getD n 0 else 0
def Terms (terms : List Int) : Prop:=terms.length≤3∧∀ x∈terms,-20≤x∧x≤20
theorem Terms.getD {terms : List Int} (h : Terms terms) (i : Nat) : -20≤terms.getD i 0∧terms.getD i 0≤20:=by
  rw [List.getD_eq_getElem?_getD]
  cases hi : terms[i]? with
  | none => simp
  | some x => simpa using h.2 x (List.mem_of_getElem? hi)
theorem sumN_le {terms : List Int} (h : Terms terms) (c : Nat) : ∀ n : Nat,-(20 * (n : Int))≤sumN terms c n∧sumN terms c n≤20 * (n : Int)
  | 0 => by simp [sumN]
  | n + 1 => by
    have ih:=sumN_le h c n
    have hg:=h.getD n
    unfold sumN
    split <;> omega
theorem s_sum (terms : List Int) (ht : Terms terms) (c : Nat) (hc : c < 1000000) (v : BV) (H : BH) {ty : Nat} (hty : rtOk none ty = true) (h : Rd H ty v (terms.map encI)) : Runs (gam base) 101 [v,encN c] H (encI (sumN terms c terms.length)) H:=by
  refine runs_of (fn:=ir101) rfl ?_
  simp [ir101]
  have hl3:=ht.1
  refine wpC_countK terms.length [(0,v),(1,encN c)] (fun i e K => e 6 = encN i∧e 5 = encI (sumN terms c i)∧K = H) (i0:=0) ?_ ?_ ?_ (Nat.zero_le _) ?_
  · rfl
  · simp
  · simp [sumN]
  rintro i e K hi ⟨e0,e1,-⟩ ⟨e6,e5,rfl⟩
  simp only [] at e0 e1
  have wi:=wS (n:=i) (by omega)
  by_cases hlt : i < terms.length
  · have hb:=sumN_le ht c i
    have hg:=ht.getD i
    have hgi : terms.getD i 0 = terms[i]:=by rw [List.getD_eq_getElem?_getD,List.getElem?_eq_getElem hlt]; rfl
    simp [e0,e1,e6,h.isSl,h.lenM,hlt]
    refine callP (s_digit c i K (by omega) hc) ?_
    by_cases hd : dg c i = 1
    · have hd' : ((dg c i : Nat) : Int) = 1:=by omega
      have gi:=h.at (i:=i) (by simpa using hlt) (rt:=none) hty
      have gi' : K.rd none none (v.sat i 1) = some (encI terms[i]):=by simpa using gi
      have wa : IntKind.i64.wrap (sumN terms c i + terms[i]) = sumN terms c i + terms[i]:=by rw [← hgi]; exact w64 (by omega) (by omega)
      simp [hd,hd',e0,e5,e6,h.isSl,h.lenM,hlt,gi',wa,wi]
      simp [sumN,hd,← hgi]
    · have hd' : ¬ ((dg c i : Nat) : Int) = 1:=by omega
      simp [hd,hd',e6,e5,wi,hlt]
      simp [sumN,hd]
  · have hie : i = terms.length:=by omega
    subst hie
    simp [e0,e5,e6,h.isSl,h.lenM]
def oddI : Int:=1099511627776
def accL (kind : Int) (s : Int) : Bool:=decide (s = 0) || ((decide (0 < s) && decide (s≠oddI)) && decide (kind = 2))
def nxL (kind : Int) (sums : Nat→Int) (s : Int) (c : Nat) : Int:=if s = oddI then oddI else if kind = 1∧(s - sums c).tmod 2≠0 then oddI else (s - sums c) / 2
theorem i_lin1 (kind s : Int) (n3 : Nat) (H : BH) (h3 : H.row n3 = .arr 2 [encI kind]) : Runs (gam base) 97 [encI s,.ptr n3 0] H (.bool (accL kind s)) H:=by
  refine runs_of (fn:=ir97) rfl ?_
  have r3:=rd_ptr h3 (rt:=none) (j:=0) (c:=encI kind) rfl rfl
  by_cases h0 : s = 0
  · simp [ir97,h0,accL]
  · by_cases h1 : 0 < s
    · by_cases h2 : s = 1099511627776
      · simp [ir97,h2,accL,oddI]
      · have h2b : (s != 1099511627776) = true:=by simp [h2]
        have h0b : (s == 0) = false:=by simp [h0]
        by_cases hk : kind = 2
        · simp [ir97,h0,h1,h2,accL,oddI,r3,h2b,h0b,hk]
        · have hkb : (kind == 2) = false:=by simp [hk]
          simp [ir97,h0,h1,h2,accL,oddI,r3,h2b,h0b,hk,hkb]
    · have h0b : (s == 0) = false:=by simp [h0]
      simp [ir97,h0,h1,accL,oddI,h0b]
theorem i_lin2 (kind s : Int) (sums : Nat→Int) (W c n3 n9 b9 : Nat) (H : BH) (h3 : H.row n3 = .arr 2 [encI kind]) (h9 : H.row n9 = .arr 36 [.sl b9 0 W]) (hb : Rd H 2 (.sl b9 0 W) ((List.range W).map fun c => encI (sums c))) (hc : c < W)
    (hs : -1100000000000≤s∧s≤1100000000000) (hsum : -1000≤sums c∧sums c≤1000) : Runs (gam base) 98 [encI s,encN c,.ptr n9 0,.ptr n3 0] H (encI (nxL kind sums s c)) H:=by
  refine runs_of (fn:=ir98) rfl ?_
  have r3:=rd_ptr h3 (rt:=none) (j:=0) (c:=encI kind) rfl rfl
  have r9:=rd_ptr h9 (rt:=none) (j:=0) (c:=.sl b9 0 W) rfl rfl
  have gi:=hb.at (i:=c) (by simpa using hc) (rt:=none) rfl
  have gi' : H.rd none none (.ptr b9 c) = some (encI (sums c)):=by simpa using gi
  have wsub : IntKind.i64.wrap (s - sums c) = s - sums c:=w64 (by omega) (by omega)
  by_cases ho : s = 1099511627776
  · simp [ir98,ho,nxL,oddI]
  · simp [ir98,ho,nxL,oddI,r3,r9,hc,gi',wsub]
    have hob : (s == 1099511627776) = false:=by simp [ho]
    have hdv : (s - sums c).fdiv 2 = (s - sums c) / 2:=by rw [Int.fdiv_eq_ediv_of_nonneg _ (by omega)]
    have hsh : shiftB BinOp.shr IntKind.i64 (s - sums c) 1 = some (.int .i64 ((s - sums c) / 2)):=by
      rw [← hdv]
      rfl
    by_cases hk : kind = 1
    · by_cases hr : (s - sums c).tmod 2 = 0
      · simp [hob,hk,hr,hsh]
      · have hrb : ((s - sums c).tmod 2 != 0) = true:=by simp [hr]
        simp [hob,hk,hr,hrb]
    · have hkb : (kind == 1) = false:=by simp [hk]
      simp [hob,hk,hkb,hsh]
theorem i_grow_long {κ : Type} [DecidableEq κ] (enc : κ→BV) (h1 : ∀ k,(enc k).one = true) (he : ∀ k l,keyEqM 0 (enc k) (enc l) = some (decide (k = l))) (hk : ∀ k,keyOk 0 (enc k) = true) (t : Nat) (ht : t≤3) (s : κ) (lim : Nat)
    (fa fn : Nat) (ca cn : List BV) (nx : κ→Nat→κ) (a : κ→Bool) (U : List κ) (hU : Closed (wd t) nx s U) (hUl : U.length≤1000000000) (H : BH)
    (ha : ∀ K,H.Keeps K→∀ k∈U,FnDoes (gam base) fa (enc k::ca) K fun v _ => v = .bool (a k)) (hn : ∀ K,H.Keeps K→∀ k∈U,∀ c,c < wd t→FnDoes (gam base) fn (enc k::encN c::cn) K fun v _ => v = enc (nx k c)) :
    FnDoes (gam base) 96 [encN t,enc s,encN lim,.fn fa ca,.fn fn cn] H fun v K => GrowR base H t lim (autOf (wd t) nx a (metL (succs (wd t) nx) s U.length)) v K:=by
  refine FnDoes.of (fn:=ir96) rfl ?_
  obtain ⟨KS,hKS⟩ : ∃ KS,KS = metL (succs (wd t) nx) s U.length:=⟨_,rfl⟩
  have hdone:=hU.done
  have hKl : KS.length≤U.length:=by rw [hKS]; exact hU.len _
  rw [← hKS]
  have hw:=wd_3 ht
  have h2 : ∀ k,(enc k).cells = [enc k]:=fun k => cells_one (h1 k)
  simp [ir96,h1]
  intro n10 b10 f10
  simp [make_of f10 b10]
  intro n12 b12 f12
  have o1:=Own.start (base:=base) (H:=H) |>.new f10 b10 (s:=.arr 77 [.int .i64 0,.int .i64 0,.nils,.nils]) |>.new f12 b12 (s:=.arr 77 [.int .i64 0,.int .i64 0,.nils,.nils])
  obtain ⟨K2,g2,o2⟩:=o1.putAll 0 (b:=n12) (n:=4) (ds:=[encN t,.int .i64 0,.nils,.nils]) rfl rfl rfl rfl (rt:=none) rfl
  simp [make_of f12 b12,g2]
  intro n13 b13 f13
  have o3:=o2.new f13 b13 (s:=.mp (numEs enc [] 0))
  obtain ⟨K3,g3,o4⟩:=o3.mset 0 (ks:=[]) rfl he hk (k:=s) (by simp)
  have g3' : (K2.set n13 (.mp [])).msetv base 0 (.mp n13) (enc s) (.int .i64 0) = some K3:=g3
  simp [make_of f13 b13,g3',h1,h2]
  intro n14 b14 f14
  have o5:=o4.new f14 b14 (s:=.arr 2 [enc s])
  simp [make_of f14 b14,h1,h2]
  have mono : ∀ i,metL (succs (wd t) nx) s i <+: KS∨U.length≤i:=fun i => by
    rcases Nat.le_total i U.length with h | h
    · exact .inl (by rw [hKS]; exact met_pre h)
    · exact .inr h
  have pre : ∀ i,metL (succs (wd t) nx) s i <+: KS:=fun i => by
    rcases mono i with h | h
    · exact h
    · rw [hdone.eq h,hKS]; exact List.prefix_refl _
  obtain ⟨I,hI⟩ : ∃ I : Nat→Env→BH→Prop,I = (fun i e K => e 15 = encN i∧∃ v3 u w b3 bo wo vs fr,e 14 = v3∧i≤(metL (succs (wd t) nx) s i).length∧(lim = 0∨(metL (succs (wd t) nx) s i).length≤lim) ∧
      Own base H K ([(wo,.arr 80 vs),(bo,.arr 4 (((KS.take i).map a).map encB)),(b3,.arr 2 ((metL (succs (wd t) nx) s i).map enc)),(some n13,.mp (numEs enc (metL (succs (wd t) nx) s i) 0)),
        (some n12,.arr 77 [encN t,.int .i64 0,u,w]),(some n10,.arr 77 [.int .i64 0,.int .i64 0,.nils,.nils])]++fr) ∧
      Vec b3 v3 (metL (succs (wd t) nx) s i).length∧Vec bo u i∧Vec wo w i∧vs.length = i∧RowsOf 3 vs fr (((KS.take i).map fun k => rowU KS nx k (wd t)).map (·.map encN))):=⟨_,rfl⟩
  refine wpC_countK U.length [(0,encN t),(2,encN lim),(3,.fn fa ca),(4,.fn fn cn),(10,.ptr n10 0),(12,.ptr n12 0),(13,.mp n13)] I (i0:=0) ?_ ?_ ?_ (Nat.zero_le _) ?_
  · rfl
  · simp
  · rw [hI]
    refine ⟨rfl,.sl n14 0 1,.nils,.nils,some n14,none,none,[],[],rfl,Nat.zero_le _,?_,(o5.nil (.arr 4 [])).nil (.arr 80 []),rfl,Vec.none,Vec.none,rfl,trivial⟩
    simp [metL]; omega
  rintro i e K hi ⟨e0,e2,e3,e4,e10,e12,e13,-⟩ hh
  rw [hI] at hh
  obtain ⟨e15,v3,u,w,b3,bo,wo,vs,fr,e14,hil,hlim,o,hv3,hu,hw',hvs,hrows⟩:=hh
  simp only [] at e0 e2 e3 e4 e10 e12 e13
  by_cases hlt : i < (metL (succs (wd t) nx) s i).length
  · -- a further row
    have hiN : i < U.length:=Nat.lt_of_lt_of_le hlt (hU.len i)
    obtain ⟨k,hkk⟩ : ∃ k,(metL (succs (wd t) nx) s i)[i]? = some k:=⟨_,List.getElem?_eq_getElem hlt⟩
    have hkU : k∈U:=hU.met i k (List.mem_of_getElem? hkk)
    have hKSi : KS[i]? = some k:=by
      obtain ⟨r,hr⟩:=pre i
      rw [← hr,List.getElem?_append_left hlt]
      exact hkk
    have hiKS : i < KS.length:=(List.getElem?_eq_some_iff.1 hKSi).1
    have hnext : metL (succs (wd t) nx) s (i + 1) = lsU (metL (succs (wd t) nx) s i) nx k (wd t):=by rw [metL,hkk]; rfl
    have hpre : ∀ c,c≤wd t→lsU (metL (succs (wd t) nx) s i) nx k c <+: KS:=fun c hc => (lsU_pre hc).trans (by rw [← hnext]; exact pre (i + 1))
    have hrd:=(o.rd 2 rfl (v:=v3) (by simpa using hv3)).at hlt (rt:=none) rfl
    have hk' : (metL (succs (wd t) nx) s i)[i] = k:=by
      have:=List.getElem?_eq_getElem hlt
      rw [hkk] at this
      simpa using this.symm
    rw [hk'] at hrd
    have wi:=wS (n:=i) (by omega)
    simp [e0,e2,e3,e4,e10,e12,e13,e14,e15,hv3.isSl,hv3.len,hlt,hrd]
    obtain ⟨J,hJ⟩ : ∃ J : Nat→Env→BH→Prop,J = (fun c e K => e 18 = encN c∧∃ v3 v17 b3 b17,e 14 = v3∧e 17 = v17∧(lim = 0∨(lsU (metL (succs (wd t) nx) s i) nx k c).length≤lim) ∧
        Own base H K ([(b17,.arr 3 ((rowU KS nx k c).map encN)),(wo,.arr 80 vs),(bo,.arr 4 (((KS.take i).map a).map encB)),(b3,.arr 2 ((lsU (metL (succs (wd t) nx) s i) nx k c).map enc)),(some n13,.mp (numEs enc (lsU (metL (succs (wd t) nx) s i) nx k c) 0)),
          (some n12,.arr 77 [encN t,.int .i64 0,u,w]),(some n10,.arr 77 [.int .i64 0,.int .i64 0,.nils,.nils])]++fr) ∧
        Vec b3 v3 (lsU (metL (succs (wd t) nx) s i) nx k c).length∧Vec b17 v17 c):=⟨_,rfl⟩
    refine wpC_countK (wd t) [(0,encN t),(2,encN lim),(3,.fn fa ca),(4,.fn fn cn),(10,.ptr n10 0),(12,.ptr n12 0),(13,.mp n13),(15,encN i),(16,enc k)] J (i0:=0) ?_ ?_ ?_ (Nat.zero_le _) ?_
    · rfl
    · simp [e0,e2,e3,e4,e10,e12,e13,e15]
    · rw [hJ]
      exact ⟨by simp,v3,.nils,b3,none,by simp [e14],by simp,hlim,o.nil _,hv3,Vec.none⟩
    clear e0 e2 e3 e4 e10 e12 e13 e14 e15 o hv3 hrd
    rintro c e K hc ⟨e0,e2,e3,e4,e10,e12,e13,e15,e16,-⟩ hh
    rw [hJ] at hh
    obtain ⟨e18,v3,v17,b3,b17,e14,e17,hlim,o,hv3,hv17⟩:=hh
    simp only [] at e0 e2 e3 e4 e10 e12 e13 e15 e16
    simp [e0,e18]
    refine callP (i_widthOf t K (by omega)) ?_
    by_cases hcw : c < wd t
    · simp [hcw,e4,e16,e18]
      refine (hn K o.keeps k hkU c hcw).step fun v K1 k1 hv => ?_
      subst hv
      have o1:=o.call k1
      obtain ⟨ls,hls⟩ : ∃ ls,ls = lsU (metL (succs (wd t) nx) s i) nx k c:=⟨_,rfl⟩
      have hlsp:=hpre c hc
      have hlsp1:=hpre (c + 1) hcw
      have hsu : lsU (metL (succs (wd t) nx) s i) nx k (c + 1) = addK ls (nx k c):=by rw [lsU_succ,← hls]
      rw [← hls] at o1 hv3 hlim hlsp
      rw [hsu] at hlsp1
      have hll:=hlsp.length_le
      have hlk:=o1.look 4 (ks:=ls) rfl he hk (nx k c)
      have hlk' : K1.mlook 0 true (.int .i64 0) (.mp n13) (enc (nx k c)) = some (.tup [if nx k c∈ls then encN (pos ls (nx k c)) else .int .i64 0,.bool (decide (nx k c∈ls))]):=hlk
      simp [e13,hlk']
      have wc:=wS (n:=c) (by omega)
      by_cases hm : nx k c∈ls
      · have hpos : pos ls (nx k c) = pos KS (nx k c):=(idx_pre hlsp hm).symm
        have hadd : addK ls (nx k c) = ls:=by unfold addK; rw [if_pos hm]
        simp [hm,hpos,e17]
        intro n1 b1 f1
        simp [make_of f1 b1]
        intro n2 b2 f2
        obtain ⟨v',K',b',q1,q2,q3⟩:=o1.push 0 rfl (by simpa [rowU_len] using hv17) (x:=encN (pos KS (nx k c))) (bytes:=8) rfl (by simp [rowU_len]; omega) (by simp [rowU_len]; omega) f1 b1 f2 b2
        simp [q1,e18,wc,hcw]
        rw [hJ]
        simp only [hsu,hadd]
        exact ⟨by simp,v3,v',b3,some b',by simp [e14],by simp,hlim,by simpa [rowU_succ] using q2,hv3,by simpa [rowU_len] using q3⟩
      · have hpos : ls.length = pos KS (nx k c):=by rw [← idx_new hm]; exact (idx_pre hlsp1 (mem_addK.2 (.inr rfl))).symm
        have hadd : addK ls (nx k c) = ls++[nx k c]:=by unfold addK; rw [if_neg hm]
        rw [hadd] at hlsp1
        have hl1:=hlsp1.length_le
        simp at hl1
        simp [hm,e14,hv3.isSl,hv3.len,e13]
        obtain ⟨K2,q1,o2⟩:=o1.mset 4 (ks:=ls) rfl he hk hm
        have q1' : K1.msetv base 0 (.mp n13) (enc (nx k c)) (.int .i64 (ls.length : Nat)) = some K2:=q1
        simp [q1',h1,h2]
        intro n1 b1 f1
        simp [make_of f1 b1]
        intro n2 b2 f2
        obtain ⟨v',K',b',q1,o3,q3⟩:=o2.push 3 rfl (by simpa using hv3) (x:=enc (nx k c)) (bytes:=8) (h1 _) (by simp; omega) (by simp; omega) f1 b1 f2 b2
        have hv' : v' = .sl b' 0 (ls.length + 1):=by simpa [Vec] using q3
        subst hv'
        simp [q1,e2,e14]
        have o3' : Own base H K' ([(b17,.arr 3 ((rowU KS nx k c).map encN)),(wo,.arr 80 vs),(bo,.arr 4 (((KS.take i).map a).map encB)),(some b',.arr 2 ((ls++[nx k c]).map enc)),(some n13,.mp (numEs enc (ls++[nx k c]) 0)),
            (some n12,.arr 77 [encN t,.int .i64 0,u,w]),(some n10,.arr 77 [.int .i64 0,.int .i64 0,.nils,.nils])]++fr):=by simpa using o3
        by_cases hl0 : 0 < lim
        · by_cases hov : lim < ls.length + 1
          · -- too many
            obtain ⟨K9,q9,o9⟩:=o3'.putAll 6 (b:=n10) (n:=4) (ds:=[.int .i64 0,.int .i64 0,.nils,.nils]) rfl rfl rfl rfl (rt:=none) rfl
            have hov' : (lim : Int) < (ls.length : Int) + 1:=by omega
            have r9:=rd_all (o9.at 6 rfl) (n:=4) (rt:=none) rfl rfl
            simp [hl0,hov',e2,e10,q9,r9]
            refine ⟨o9.keeps,?_⟩
            unfold GrowR
            rw [if_pos ⟨hl0,by simp [autOf]; omega⟩]
            rfl
          · have hov' : ¬ (lim : Int) < (ls.length : Int) + 1:=by omega
            simp [hl0,hov',e2,e17]
            intro n3 b3' f3
            simp [make_of f3 b3']
            intro n4 b4 f4
            obtain ⟨v'',K'',b'',p1,p2,p3⟩:=o3'.push 0 rfl (by simpa [rowU_len] using hv17) (x:=encN ls.length) (bytes:=8) rfl (by simp [rowU_len]; omega) (by simp [rowU_len]; omega) f3 b3' f4 b4
            simp [p1,e18,wc,hcw]
            rw [hJ]
            simp only [hsu,hadd]
            exact ⟨by simp,.sl b' 0 (ls.length + 1),v'',some b',some b'',by simp,by simp,.inr (by simp; omega),by rw [rowU_succ,← hpos]; simpa using p2,by simpa using q3,by simpa [rowU_len] using p3⟩
        · have hl0' : lim = 0:=by omega
          subst hl0'
          simp [e17]
          intro n3 b3' f3
          simp [make_of f3 b3']
          intro n4 b4 f4
          obtain ⟨v'',K'',b'',p1,p2,p3⟩:=o3'.push 0 rfl (by simpa [rowU_len] using hv17) (x:=encN ls.length) (bytes:=8) rfl (by simp [rowU_len]; omega) (by simp [rowU_len]; omega) f3 b3' f4 b4
          simp [p1,e18,wc,hcw]
          rw [hJ]
          simp only [hsu,hadd]
          exact ⟨by simp,.sl b' 0 (ls.length + 1),v'',some b',some b'',by simp,by simp,.inl (by trivial),by rw [rowU_succ,← hpos]; simpa using p2,by simpa using q3,by simpa [rowU_len] using p3⟩
    · have : c = wd t:=by omega
      subst this
      rw [← hnext] at o hv3 hlim
      have u1:=rd_ptr (o.at 5 rfl) (rt:=some 77) (j:=2) (c:=u) rfl rfl
      simp [e12,e3,e16,u1]
      refine (ha K o.keeps k hkU).step fun v K1 k1 hv => ?_
      subst hv
      have o1:=o.call k1
      simp
      intro n1 b1 f1
      simp [make_of f1 b1]
      intro n2 b2 f2
      have hti : (KS.take i).length = i:=by simp; omega
      obtain ⟨v',K2,b',q1,o2,q3⟩:=o1.push 2 rfl (v:=u) (by simp only [List.length_map,hti]; exact hu) (x:=encB (a k)) (bytes:=1) rfl (by simp; omega) (by simp; omega) f1 b1 f2 b2
      obtain ⟨K3,q2,o3⟩:=o2.put 5 rfl (j:=2) (u:=v') (by simp) q3.one (rt:=none) rfl
      simp [q1,q2,e12]
      have u2:=rd_ptr (o3.at 5 rfl) (rt:=none) (j:=3) (c:=w) rfl rfl
      simp [u2,e17]
      have h17:=hv17.one
      simp [h17,cells_one h17]
      intro n3 b3' f3
      simp [make_of f3 b3']
      intro n4 b4 f4
      obtain ⟨w',K4,c',p1,o4,p3⟩:=o3.push 1 rfl (v:=w) (by rw [hvs]; exact hw') (x:=v17) (bytes:=24) h17 (by omega) (by omega) f3 b3' f4 b4
      obtain ⟨K5,p2,o5⟩:=o4.put 5 rfl (j:=3) (u:=w') (by simp) p3.one (rt:=none) rfl
      simp [p1,p2,e12,e15,wi,hiN]
      rw [hI]
      have hta : (KS.take (i + 1)).map a = (KS.take i).map a++[a k]:=by rw [List.take_add_one,hKSi]; simp
      have htr : ((KS.take (i + 1)).map fun k => rowU KS nx k (wd t)).map (·.map encN) = ((KS.take i).map fun k => rowU KS nx k (wd t)).map (·.map encN)++[(rowU KS nx k (wd t)).map encN]:=by rw [List.take_add_one,hKSi]; simp
      have hin : i + 1≤(metL (succs (wd t) nx) s (i + 1)).length:=by
        have:=(met_pre1 (sx:=succs (wd t) nx) (s:=s) i).length_le
        omega
      refine ⟨by simp,v3,v',w',b3,some b',some c',vs++[v17],fr++[(b17,.arr 3 ((rowU KS nx k (wd t)).map encN))],by simp [e14],hin,hlim,?_,hv3,?_,?_,by simp [hvs],?_⟩
      · refine Own.last (F:=[(some c',.arr 80 (vs++[v17])),(some b',.arr 4 (((KS.take (i + 1)).map a).map encB)),(b3,.arr 2 ((metL (succs (wd t) nx) s (i + 1)).map enc)),(some n13,.mp (numEs enc (metL (succs (wd t) nx) s (i + 1)) 0)),
          (some n12,.arr 77 [encN t,.int .i64 0,v',w']),(some n10,.arr 77 [.int .i64 0,.int .i64 0,.nils,.nils])]) ?_
        rw [hta]
        simpa using o5
      · simp only [List.length_map,hti] at q3
        exact q3
      · simpa [hvs] using p3
      · rw [htr]
        exact hrows.snoc (by simpa [rowU_len] using hv17)
  · -- all rows are made
    have hie : i = (metL (succs (wd t) nx) s i).length:=by omega
    have hdi : Done (wd t) nx s i:=by unfold Done DoneL; omega
    have hKi : metL (succs (wd t) nx) s i = KS:=by
      rw [hKS]
      exact DoneL.same hdi hdone
    rw [hKi] at hie hlim o
    have htk : KS.take i = KS:=by rw [hie,List.take_length]
    rw [htk] at o hrows
    have r1:=rd_all (o.at 4 rfl) (n:=4) (rt:=none) rfl rfl
    obtain ⟨K9,q9,o9⟩:=o.putAll 5 (b:=n10) (n:=4) (ds:=[encN t,.int .i64 0,u,w]) rfl rfl rfl (by simp [hu.one,hw'.one]) (rt:=none) rfl
    have r9:=rd_all (o9.at 5 rfl) (n:=4) (rt:=none) rfl rfl
    have hlt' : ¬ i < (metL (succs (wd t) nx) s i).length:=hlt
    simp [e0,e2,e3,e4,e10,e12,e13,e14,e15,hv3.isSl,hv3.len,hlt',r1,q9,r9]
    refine ⟨o9.keeps,?_⟩
    unfold GrowR
    rw [if_neg (by simp [autOf]; omega)]
    refine ⟨_,rfl,u,w,bo,wo,vs,fr,rfl,?_,by simpa [autOf,← hie] using hu,by rw [hvs]; exact hw',by simpa [autOf,rowU] using hrows⟩
    have o10 : Own base H K9 ((wo,.arr 80 vs)::(bo,.arr 4 ((KS.map a).map encB))::fr):=o9.sub (.cons_cons _ (.cons_cons _ (.cons _ (.cons _ (.cons _ (.cons _ (List.Sublist.refl _)))))))
    exact o10.perm (List.Perm.swap _ _ _)
def Lin1 (base : Nat) (H : BH) (kind c0 : Int) (terms : List Int) (e : Env) (K : BH) : Prop:=∃ n3 n6 n9 nS,Has e [(2,encI c0),(8,encN terms.length),(3,.ptr n3 0),(6,.ptr n6 0),(9,.ptr n9 0)]∧Own base H K [(some nS,.arr 2 ((List.range (wd terms.length)).map fun c => encI (sumN terms c terms.length))),(some n9,.arr 36 [.sl nS 0 (wd terms.length)]),(some n6,.arr 25 [.int .i64 0,.int .i64 0,.nils,.nils]),(some n3,.arr 2 [encI kind])]
theorem lin_p1 (kind : Int) (terms : List Int) (hT : Terms terms) (c0 : Int) (v : BV) (H : BH) (hv : Rd H 2 v (terms.map encI)) (Q : Post) :
    wpC base (Runs (gam base)) (ir47.body.hd 4) (Post.then (Lin1 base H kind c0 terms) Q) (argEnv [encI kind,v,encI c0]) H:=by
  obtain ⟨Y,hY⟩ : ∃ Y : Env→BH→Prop,Y = Lin1 base H kind c0 terms:=⟨_,rfl⟩
  rw [← hY]
  have hl3:=hT.1
  simp [ir47,BCode.hd]
  intro n3 b3 f3
  simp [make_of f3 b3]
  intro n6 b6 f6
  simp [make_of f6 b6,hv.isSl,hv.lenM]
  refine callP (i_widthOf terms.length _ (by omega)) ?_
  obtain ⟨W,hW⟩ : ∃ W,W = wd terms.length:=⟨_,rfl⟩
  have hW26 : W≤26:=by rw [hW]; exact wd_3 hl3
  rw [← hW]
  have c1 : (W : Int)≤140737488355328:=by omega
  have c8 : 8 * (W : Int)≤140737488355328:=by omega
  simp [c1,c8]
  intro nS bS fS
  simp [make_of fS bS]
  intro n9 b9 f9
  have o1:=Own.start (base:=base) (H:=H) |>.new f3 b3 (s:=.arr 2 [encI kind]) |>.new f6 b6 (s:=.arr 25 [.int .i64 0,.int .i64 0,.nils,.nils]) |>.new fS bS (s:=.arr 2 (List.replicate W (.int .i64 0))) |>.new f9 b9 (s:=.arr 36 [.nils])
  obtain ⟨K1,g1,o2⟩:=o1.put 0 (b:=n9) rfl (j:=0) (u:=.sl nS 0 W) (by simp) rfl (rt:=none) rfl
  have r9:=rd_ptr (o2.at 0 (b:=n9) rfl) (rt:=none) (j:=0) (c:=.sl nS 0 W) rfl rfl
  simp [make_of f9 b9,g1,r9]
  obtain ⟨Z,hZ⟩ : ∃ Z,Z = List.replicate W (BV.int .i64 0):=⟨_,rfl⟩
  have hZl : Z.length = W:=by rw [hZ]; simp
  obtain ⟨F,hF⟩ : ∃ F : List Sl,F = [(some n9,.arr 36 [.sl nS 0 W]),(some n6,.arr 25 [.int .i64 0,.int .i64 0,.nils,.nils]),(some n3,.arr 2 [encI kind])]:=⟨_,rfl⟩
  obtain ⟨f,hf⟩ : ∃ f : Nat→BV,f = fun c => encI (sumN terms c terms.length):=⟨_,rfl⟩
  obtain ⟨I,hI⟩ : ∃ I : Nat→Env→BH→Prop,I = (fun i e K => e 26 = encN i∧Own base H K ((some nS,.arr 2 (mixL f Z i))::F)):=⟨_,rfl⟩
  refine wpC_countK W [(1,v),(2,encI c0),(3,.ptr n3 0),(6,.ptr n6 0),(8,encN terms.length),(9,.ptr n9 0),(25,encN W)] I (i0:=0) ?_ ?_ ?_ (Nat.zero_le _) ?_
  · rfl
  · simp
  · rw [hI]
    refine ⟨by simp,?_⟩
    rw [mixL_zero,hF,hZ]
    have o3 : Own base H K1 [(some n9,.arr 36 [.sl nS 0 W]),(some nS,.arr 2 (List.replicate W (.int .i64 0))),(some n6,.arr 25 [.int .i64 0,.int .i64 0,.nils,.nils]),(some n3,.arr 2 [encI kind])]:=o2
    exact o3.perm (List.Perm.swap _ _ _)
  clear o1 o2 g1 r9
  rintro i e K hi ⟨e1,e2,e3,e6,e8,e9,e25,-⟩ hh
  rw [hI] at hh
  obtain ⟨e26,o⟩:=hh
  simp only [] at e1 e2 e3 e6 e8 e9 e25
  have wi:=wS (n:=i) (by omega)
  by_cases hlt : i < W
  · simp [e8,e25,e26,hlt]
    refine (i_digitsOf (base:=base) terms.length i K (by omega) (by omega)).step fun d K1 k1 hd => ?_
    obtain ⟨bo,hd,hfr⟩:=hd
    have hdr:=hd.rd
    have o2:=o.take k1 hd hfr
    have hdv : Vec bo d terms.length:=by simpa [digs_len] using hd.vec
    simp [hdr.isSl,hdr.lenM,digs_len]
    have hzi : (mixL f Z i)[i]? = some (encI (sumN terms i 0)):=by
      unfold mixL
      rw [List.getElem?_append_right (by simp),List.length_map,List.length_range,Nat.sub_self,List.getElem?_drop,hZ,Nat.add_zero,List.getElem?_replicate,if_pos hlt]
      rfl
    have hml : (mixL f Z i).length = W:=by rw [mixL_len (by omega),hZl]
    obtain ⟨M,hM⟩ : ∃ M,M = mixL f Z i:=⟨_,rfl⟩
    rw [← hM] at hzi hml o2
    obtain ⟨J,hJ⟩ : ∃ J : Nat→Env→BH→Prop,J = (fun j e L => e 33 = encN j∧Own base H L ((bo,.arr 3 ((digs terms.length i).map encN))::(some nS,.arr 2 (M.set i (encI (sumN terms i j))))::F)):=⟨_,rfl⟩
    refine wpC_countK terms.length [(1,v),(2,encI c0),(3,.ptr n3 0),(6,.ptr n6 0),(8,encN terms.length),(9,.ptr n9 0),(10,encN i),(25,encN W),(26,encN i),(31,d),(32,encN terms.length)] J (i0:=0) ?_ ?_ ?_ (Nat.zero_le _) ?_
    · rfl
    · simp [e1,e2,e3,e6,e8,e9,e25,e26]
    · rw [hJ]
      refine ⟨by simp,?_⟩
      rw [set_self hzi]
      exact o2
    clear e1 e2 e3 e6 e8 e9 e25 e26
    rintro j e L hj ⟨e1,e2,e3,e6,e8,e9,e10,e25,e26,e31,e32,-⟩ hh
    rw [hJ] at hh
    obtain ⟨e33,oL⟩:=hh
    simp only [] at e1 e2 e3 e6 e8 e9 e10 e25 e26 e31 e32
    have wj:=wS (n:=j) (by omega)
    by_cases hlj : j < terms.length
    · have oL':=oL
      rw [hF] at oL'
      have gd:=(oL.rd 0 rfl (by simpa [digs_len] using hdv)).at (i:=j) (by simpa [digs_len] using hlj) (rt:=none) rfl
      have gd' : L.rd none none (d.sat j 1) = some (encN (dg i j)):=by simpa [digs] using gd
      have r9:=rd_ptr (oL'.at 2 (b:=n9) rfl) (rt:=none) (j:=0) (c:=.sl nS 0 W) rfl rfl
      have hsl : d.isSl = true:=hdv.isSl
      have hsn : d.slen = terms.length:=hdv.len
      by_cases h1 : dg i j = 1
      · have h1' : ((dg i j : Nat) : Int) = 1:=by omega
        have hmi : i < (M.set i (encI (sumN terms i j))).length:=by simp [hml,hlt]
        have gs:=rd_ptr (oL.at 1 (b:=nS) rfl) (rt:=none) (j:=i) (c:=encI (sumN terms i j)) rfl (by simp [hml,hlt])
        have gt:=(hv.keeps oL.keeps).at (i:=j) (by simpa using hlj) (rt:=none) rfl
        have gt' : L.rd none none (v.sat j 1) = some (encI terms[j]):=by simpa using gt
        have hb:=sumN_le hT i j
        have hg:=hT.getD j
        have hgj : terms.getD j 0 = terms[j]:=by rw [List.getD_eq_getElem?_getD,List.getElem?_eq_getElem hlj]; rfl
        have wa : IntKind.i64.wrap (sumN terms i j + terms[j]) = sumN terms i j + terms[j]:=by rw [← hgj]; exact w64 (by omega) (by omega)
        obtain ⟨K5,g5,o5⟩:=oL.put 1 (b:=nS) rfl (j:=i) (u:=encI (sumN terms i j + terms[j])) hmi rfl (rt:=none) rfl
        simp [e1,e9,e10,e31,e32,e33,hlj,hsl,hsn,gd',h1,h1',r9,hlt,gs,hv.isSl,hv.lenM,gt',wa,g5,wj]
        rw [hJ]
        refine ⟨by simp,?_⟩
        have e : (M.set i (encI (sumN terms i j))).set i (encI (sumN terms i j + terms[j])) = M.set i (encI (sumN terms i (j + 1))):=by
          simp [sumN,h1,← hgj]
        rw [e] at o5
        exact o5
      · have h1' : ¬ ((dg i j : Nat) : Int) = 1:=by omega
        simp [e31,e32,e33,hlj,hsl,hsn,gd',h1,h1',wj]
        rw [hJ]
        refine ⟨by simp,?_⟩
        have e : sumN terms i (j + 1) = sumN terms i j:=by simp [sumN,h1]
        rw [e]
        exact oL
    · have hjn : j = terms.length:=by omega
      subst hjn
      simp [e26,e32,e33,wi,e25,hlt]
      rw [hI]
      refine ⟨by simp,?_⟩
      have : M.set i (encI (sumN terms i terms.length)) = mixL f Z (i + 1):=by
        rw [hM,← mixL_set (by omega),hf]
      rw [← this]
      exact oL.tail
  · have hie : i = W:=by omega
    subst hie
    simp [e25,e26]
    rw [hY]
    refine ⟨n3,n6,n9,nS,?_,?_⟩
    · simp [e2,e3,e6,e8,e9]
    · rw [← hZl,mixL_all,hZl,hF,hf] at o
      rw [← hW]
      exact o
def GoodC (t : Nat) (r : Option Aut × Nat) : Prop:=match r with
  | (some A,c) => c = 0∧A.Ok (wd t)∧A.acc.length≤150
  | (none,c) => 0 < c∧c≤8
def RdO (H : BH) (t : Nat) (r : Option Aut × Nat) (m : BV) : Prop:=match r with
  | (some A,_) => RdRel H t 0 A m
  | (none,_) => m = .agg [encN 0,encN 0,.nils,.nils]
theorem GoodC.none (t c : Nat) (h : 0 < c∧c≤8) : GoodC t (none,c):=h
theorem GoodC.code {t : Nat} {r : Option Aut × Nat} (h : GoodC t r) : r.2≤8:=by
  obtain ⟨a,c⟩:=r
  cases a with
  | none => exact h.2
  | some A => rw [show c = 0 from h.1]; exact Nat.zero_le _
theorem GoodC.good {t : Nat} {r : Option Aut × Nat} (h : GoodC t r) : GoodR t r:=fun A hA => by
  obtain ⟨a,c⟩:=r
  cases hA
  exact h.2
theorem GoodC.told {t : Nat} {A : Aut} (h : A.Ok (wd t)) : GoodC t (told A):=by
  unfold Go.Proofs.YtbnmhbmhafbmiaaGreatDoor.W.told
  split
  · exact ⟨by omega,by omega⟩
  · exact ⟨rfl,h,by omega⟩
theorem joinN_goodC {t : Nat} (ht : t≤3) {op : Bool→Bool→Bool} {A B : Aut} {s1 s2 : Nat} (hokA : A.Ok (wd t)) (hokB : B.Ok (wd t)) (hs1 : s1 < A.acc.length) (hs2 : s2 < B.acc.length) : GoodC t (joinN t op (A.lang s1) (B.lang s2)):=by
  unfold joinN
  split
  · exact .none _ _ (by omega)
  · obtain ⟨hT1,-⟩:=TA_spec ht hokA hs1
    obtain ⟨hT2,-⟩:=TA_spec ht hokB hs2
    obtain ⟨e1,e2,e3⟩:=pairA_ok (op:=op) hT1.ok hT2.ok
    have h:=(TA_spec ht e1 (s:=0) e1.pos).1
    rw [join_TA hT1 hT2 e3] at h
    exact .told h.ok
theorem addN_goodC {t at_ s : Nat} (ht : t + 1≤3) {A : Aut} (hA : A.Ok (wd t)) (hs : s < A.acc.length) : GoodC (t + 1) (addN t at_ (A.lang s)):=by
  have h:=(TA_spec ht (mapA_ok (w':=wd (t + 1)) (col:=lessC t at_) hA) (s:=s) hs).1
  rw [add_s hA hs] at h
  exact GoodC.told h.ok
theorem RdO.keeps {H K : BH} {t : Nat} {r : Option Aut × Nat} {m : BV} (h : RdO H t r m) (k : H.Keeps K) : RdO K t r m:=by
  obtain ⟨a,c⟩:=r
  cases a with
  | none => exact h
  | some A => exact RdRel.keeps h k
theorem RdO.ones {H : BH} {t : Nat} {r : Option Aut × Nat} {m : BV} (h : RdO H t r m) : ∃ a b u x : BV,m = .agg [a,b,u,x]∧a.one = true∧b.one = true∧u.one = true∧x.one = true:=by
  obtain ⟨a,c⟩:=r
  cases a with
  | none => exact ⟨_,_,_,_,h,rfl,rfl,rfl,rfl⟩
  | some A =>
    obtain ⟨u,x,e,hu,hx⟩:=h
    exact ⟨_,_,u,x,e,rfl,rfl,hu.one,one_of_isSl hx.isSl⟩
theorem RelR.out {H K : BH} {t : Nat} {r : Option Aut × Nat} {v : BV} (h : RelR base H t r v K) : ∃ m,v = .tup [m,encN r.2]∧RdO K t r m:=by
  obtain ⟨a,c⟩:=r
  cases a with
  | none => exact ⟨_,h,rfl⟩
  | some A =>
    obtain ⟨m,e,ho⟩:=h
    exact ⟨m,e,ho.rd⟩
noncomputable def bothN (t : Nat) (op : Bool→Bool→Bool) (r1 r2 : Option Aut × Nat) : Option Aut × Nat:=match r1 with
  | (none,c) => (none,c)
  | (some A,_) => match r2 with
    | (none,c) => (none,c)
    | (some B,_) => joinN t op (A.lang 0) (B.lang 0)
theorem bothN_good {t : Nat} (ht : t≤3) {op : Bool→Bool→Bool} {r1 r2 : Option Aut × Nat} (h1 : GoodC t r1) (h2 : GoodC t r2) : GoodC t (bothN t op r1 r2):=by
  obtain ⟨a,c⟩:=r1
  obtain ⟨b,d⟩:=r2
  cases a with
  | none => exact h1
  | some A =>
    cases b with
    | none => exact h2
    | some B => exact joinN_goodC ht h1.2.1 h2.2.1 h1.2.1.pos h2.2.1.pos
theorem code_ne {c : Nat} (h : 0 < c) : ((c : Int) != 0) = true:=by simp; omega
theorem i_bothN (t : Nat) (ht1 : 1≤t) (ht : t≤3) (r1 r2 : Option Aut × Nat) (m1 m2 : BV) (H : BH) (h1 : RdO H t r1 m1) (h2 : RdO H t r2 m2) (g1 : GoodC t r1) (g2 : GoodC t r2) :
    FnDoes (gam base) 88 [m1,encN r1.2,m2,encN r2.2] H fun v K => RelR base H t (bothN t (fun a b => a && b) r1 r2) v K:=by
  obtain ⟨R,hR⟩ : ∃ R : BV→BH→Prop,R = fun v K => RelR base H t (bothN t (fun a b => a && b) r1 r2) v K:=⟨_,rfl⟩
  rw [← hR]
  refine FnDoes.of (fn:=ir88) rfl ?_
  obtain ⟨a1,b1,u1,x1,e1,p1,p2,p3,p4⟩:=h1.ones
  obtain ⟨a2,b2,u2,x2,e2,q1,q2,q3,q4⟩:=h2.ones
  subst e1
  subst e2
  simp [ir88,p1,p2,p3,p4,q1,q2,q3,q4]
  intro n2 hb2 f2
  simp [make_of f2 hb2,q1,q2,q3,q4]
  intro n3 hb3 f3
  simp [make_of f3 hb3]
  intro n4 hb4 f4
  have o1:=Own.start (base:=base) (H:=H) |>.new f2 hb2 (s:=.arr 25 [a1,b1,u1,x1]) |>.new f3 hb3 (s:=.arr 25 [a2,b2,u2,x2]) |>.new f4 hb4 (s:=.arr 25 [.int .i64 0,.int .i64 0,.nils,.nils])
  have r0:=rd_all (o1.at 2 (b:=n2) rfl) (n:=4) (rt:=none) rfl rfl
  have r1':=rd_all (o1.at 1 (b:=n3) rfl) (n:=4) (rt:=none) rfl rfl
  obtain ⟨z1,c1⟩:=r1
  obtain ⟨z2,c2⟩:=r2
  cases z1 with
  | none =>
    have hc:=code_ne g1.1
    have hc' : ¬ c1 = 0:=by have : 0 < c1:=g1.1; omega
    obtain ⟨m,K8,e8,g8,r8,kk,hrel⟩:=rel_end (base:=base) (t:=t) (r:=(none,c1)) o1 (i:=0) (n2:=n4) rfl rfl (BH.Keeps.refl _) rfl
    cases e8
    have g8' : (((H.set n2 (.arr 25 [a1,b1,u1,x1])).set n3 (.arr 25 [a2,b2,u2,x2])).set n4 (.arr 25 [.int .i64 0,.int .i64 0,.nils,.nils])).wr base none 4 (.ptr n4 0) (.agg [.int .i64 0,.int .i64 0,.nils,.nils]) = some K8:=g8
    simp [make_of f4 hb4,hc,hc',g8',r8]
    rw [hR]
    exact ⟨kk,hrel⟩
  | some A =>
    have e1 : c1 = 0:=g1.1
    subst e1
    cases z2 with
    | none =>
      have hc:=code_ne g2.1
      have hc' : ¬ c2 = 0:=by have : 0 < c2:=g2.1; omega
      obtain ⟨m,K8,e8,g8,r8,kk,hrel⟩:=rel_end (base:=base) (t:=t) (r:=(none,c2)) o1 (i:=0) (n2:=n4) rfl rfl (BH.Keeps.refl _) rfl
      cases e8
      have g8' : (((H.set n2 (.arr 25 [a1,b1,u1,x1])).set n3 (.arr 25 [a2,b2,u2,x2])).set n4 (.arr 25 [.int .i64 0,.int .i64 0,.nils,.nils])).wr base none 4 (.ptr n4 0) (.agg [.int .i64 0,.int .i64 0,.nils,.nils]) = some K8:=g8
      simp [make_of f4 hb4,hc,hc',g8',r8]
      rw [hR]
      exact ⟨kk,hrel⟩
    | some B =>
      have e2 : c2 = 0:=g2.1
      subst e2
      simp [make_of f4 hb4,r0,r1']
      refine (i_both (base:=base) t 0 0 ht1 ht A B _ _ _ (RdRel.keeps h1 o1.keeps) (RdRel.keeps h2 o1.keeps) g1.2.1 g2.2.1 g1.2.1.pos g2.2.1.pos g1.2.2 g2.2.2).step fun v K2 k2 hv => ?_
      obtain ⟨m,K8,rfl,g8,r8,kk,hrel⟩:=rel_end (base:=base) o1 (i:=0) (n2:=n4) rfl rfl k2 hv
      simp [g8,r8]
      rw [hR]
      exact ⟨kk,hrel⟩
theorem encI_eq : ∀ k l : Int,keyEqM 0 (encI k) (encI l) = some (decide (k = l)):=fun k l => by
  have h : keyEqM 0 (encI k) (encI l) = some (k == l):=rfl
  rw [h]
  by_cases e : k = l
  · subst e; simp
  · simp [e]
def sumsF (terms : List Int) (c : Nat) : Int:=sumN terms c terms.length
def linX (kind c0 : Int) (terms U : List Int) : Aut:=autOf (wd terms.length) (nxL kind (sumsF terms)) (accL kind) (metL (succs (wd terms.length) (nxL kind (sumsF terms))) c0 U.length)
theorem linX_ok {kind c0 : Int} {terms U : List Int} (hU : Closed (wd terms.length) (nxL kind (sumsF terms)) c0 U) : (linX kind c0 terms U).Ok (wd terms.length)∧(linX kind c0 terms U).acc.length≤U.length ∧
    ∀ cs,In (wd terms.length) cs→(linX kind c0 terms U).lang 0 cs = langK (nxL kind (sumsF terms)) (accL kind) c0 cs:=autOf_met (a:=accL kind) hU
noncomputable def linN (kind c0 : Int) (terms U : List Int) : Option Aut × Nat:=bothN terms.length (fun a b => a && b) (told (TA terms.length ((linX kind c0 terms U).lang 0))) (some (TA terms.length (LD (List.range terms.length))),0)
theorem linN_goods {kind c0 : Int} {terms U : List Int} (h3 : terms.length≤3) (hU : Closed (wd terms.length) (nxL kind (sumsF terms)) c0 U) : GoodC terms.length (told (TA terms.length ((linX kind c0 terms U).lang 0)))∧GoodC terms.length (some (TA terms.length (LD (List.range terms.length))),0):=by
  have hX:=(linX_ok hU).1
  obtain ⟨hD1,hD2⟩:=LD_small (t:=terms.length) h3 (S:=List.range terms.length) (fun k hk => List.mem_range.1 hk)
  exact ⟨.told (TA_spec h3 hX hX.pos).1.ok,rfl,hD1.ok,by omega⟩
theorem linN_good {kind c0 : Int} {terms U : List Int} (h3 : terms.length≤3) (hU : Closed (wd terms.length) (nxL kind (sumsF terms)) c0 U) : GoodC terms.length (linN kind c0 terms U):=bothN_good h3 (linN_goods h3 hU).1 (linN_goods h3 hU).2
theorem i_linear (kind : Int) (terms : List Int) (hT : Terms terms) (h0 : 1≤terms.length) (c0 : Int) (U : List Int) (hU : Closed (wd terms.length) (nxL kind (sumsF terms)) c0 U) (hUl : U.length≤150) (hUb : ∀ s∈U,-1100000000000≤s∧s≤1100000000000) (v : BV) (H : BH) (hv : Rd H 2 v (terms.map encI)) :
    FnDoes (gam base) 47 [encI kind,v,encI c0] H fun r K => RelR base H terms.length (linN kind c0 terms U) r K:=by
  obtain ⟨R,hR⟩ : ∃ R : BV→BH→Prop,R = fun r K => RelR base H terms.length (linN kind c0 terms U) r K:=⟨_,rfl⟩
  rw [← hR]
  refine FnDoes.of (fn:=ir47) rfl ?_
  refine wpC_part 4 (Lin1 base H kind c0 terms) (lin_p1 kind terms hT c0 v H hv _) fun e K hh => ?_
  obtain ⟨n3,n6,n9,nS,⟨e2,e8,e3,e6,e9,-⟩,o⟩:=hh
  simp only [] at e2 e8 e3 e6 e9
  have hl3:=hT.1
  obtain ⟨h1,h2,h3⟩:=autOf_met (a:=accL kind) hU
  have hg:=i_grow_long (base:=base) encI (fun _ => rfl) encI_eq (fun _ => rfl) terms.length hl3 c0 1000 97 98 [.ptr n3 0] [.ptr n9 0,.ptr n3 0] (nxL kind (sumsF terms)) (accL kind) U hU (by omega) K
    (fun L kL k hk => ⟨_,_,i_lin1 kind k n3 L (by rw [kL n3 (by rw [o.at 3 rfl]; simp),o.at 3 rfl]),BH.Keeps.refl _,rfl⟩)
    (fun L kL k hk c hc => ⟨_,_,i_lin2 kind k (sumsF terms) (wd terms.length) c n3 n9 nS L (by rw [kL n3 (by rw [o.at 3 rfl]; simp),o.at 3 rfl]) (by rw [kL n9 (by rw [o.at 1 rfl]; simp),o.at 1 rfl]) ((o.rd 0 rfl (by simp; rfl)).keeps kL) hc (hUb k hk) (by have:=sumN_le hT c terms.length; unfold sumsF; omega),BH.Keeps.refl _,rfl⟩)
  simp [ir47,BCode.tl,e2,e3,e8,e9]
  refine hg.step fun r K1 k1 hr => ?_
  have hlX : (linX kind c0 terms U).acc.length≤U.length:=h2
  unfold GrowR at hr
  rw [if_neg (by have : (autOf (wd terms.length) (nxL kind (sumsF terms)) (accL kind) (metL (succs (wd terms.length) (nxL kind (sumsF terms))) c0 U.length)).acc.length≤U.length:=h2; omega)] at hr
  obtain ⟨mm,rfl,hmm⟩:=hr
  have hmm : OwnM base K K1 terms.length 0 (linX kind c0 terms U) mm:=hmm
  have hrd:=hmm.rd
  obtain ⟨uu,ww,rfl,hu,hw⟩:=id hrd
  have u1:=hu.one
  have w1:=one_of_isSl hw.isSl
  simp [u1,w1]
  intro n13 b13 f13
  obtain ⟨N,hN⟩ : ∃ N,N = terms.length:=⟨_,rfl⟩
  obtain ⟨K2,g2,o2⟩:=(Own.start (base:=base) (H:=K1) |>.new f13 b13 (s:=.arr 77 [.int .i64 0,.int .i64 0,.nils,.nils])).putAll 0 (b:=n13) rfl (n:=4) (ds:=[encN terms.length,encN 0,uu,ww]) rfl rfl (by simp [u1,w1]) (rt:=none) rfl
  have r13:=rd_all (o2.at 0 (b:=n13) rfl) (n:=4) (rt:=none) rfl rfl
  have hokX : (linX kind c0 terms U).Ok (wd terms.length):=h1
  obtain ⟨hTX,hTl⟩:=TA_spec hl3 hokX hokX.pos
  simp [make_of f13 b13,g2,r13]
  refine (i_tidied (base:=base) terms.length 0 hl3 _ _ K2 (hrd.keeps o2.keeps) hokX hokX.pos (by omega)).step fun r K3 k3 hr => ?_
  obtain ⟨gt1,gt2⟩:=linN_goods hl3 hU
  obtain ⟨mt,rfl,hmt⟩:=hr.out
  obtain ⟨ta,tb,ut,xt,rfl,ta1,tb1,ut1,xt1⟩:=hmt.ones
  obtain ⟨ct,hct⟩ : ∃ ct,ct = (told (TA terms.length ((linX kind c0 terms U).lang 0))).2:=⟨_,rfl⟩
  simp only [← hct]
  simp [ta1,tb1,ut1,xt1]
  intro n15 b15 f15
  obtain ⟨K4,g4,o4⟩:=(Own.start (base:=base) (H:=K3) |>.new f15 b15 (s:=.arr 25 [.int .i64 0,.int .i64 0,.nils,.nils])).putAll 0 (b:=n15) rfl (n:=4) (ds:=[ta,tb,ut,xt]) rfl rfl (by simp [ta1,tb1,ut1,xt1]) (rt:=none) rfl
  simp [make_of f15 b15,g4,e8]
  refine (i_numberFrame (base:=base) terms.length h0 hl3 K4).step fun r K5 k5 hr => ?_
  obtain ⟨mf,rfl,hmf⟩:=hr
  obtain ⟨uf,xf,rfl,huf,hxf⟩:=id hmf
  have uf1:=huf.one
  have xf1:=one_of_isSl hxf.isSl
  simp [uf1,xf1]
  intro n17 b17 f17
  obtain ⟨K6,g6,o6⟩:=(Own.start (base:=base) (H:=K5) |>.new f17 b17 (s:=.arr 25 [.int .i64 0,.int .i64 0,.nils,.nils])).putAll 0 (b:=n17) rfl (n:=4) (ds:=[encN terms.length,encN 0,uf,xf]) rfl rfl (by simp [uf1,xf1]) (rt:=none) rfl
  have k6:=k5.trans o6.keeps
  have p15:=rd_keeps k6 (rd_all (o4.at 0 (b:=n15) rfl) (n:=4) (rt:=none) rfl rfl)
  have p17:=rd_all (o6.at 0 (b:=n17) rfl) (n:=4) (rt:=none) rfl rfl
  simp [make_of f17 b17,g6,p15,p17]
  have hbo:=i_bothN (base:=base) terms.length h0 hl3 _ (some (TA terms.length (LD (List.range terms.length))),0) _ (.agg [encN terms.length,encN 0,uf,xf]) K6 (hmt.keeps (o4.keeps.trans k6)) (RdRel.keeps hmf o6.keeps) gt1 gt2
  rw [← hct] at hbo
  refine hbo.step fun r K7 k7 hr => ?_
  obtain ⟨m,K8,e8',g8,r8,kk,hrel⟩:=rel_end (base:=base) (o.call (k1.trans (o2.keeps.trans (k3.trans (o4.keeps.trans k6))))) (i:=2) (n2:=n6) rfl rfl k7 hr
  subst e8'
  simp [e6,g8,r8]
  rw [hR]
  exact ⟨kk,hrel⟩
theorem RelR.call {H K L : BH} {t : Nat} {r : Option Aut × Nat} {v : BV} (h : RelR base H t r v K) (k : K.Keeps L) : RelR base H t r v L:=by
  obtain ⟨a,c⟩:=r
  cases a with
  | none => exact h
  | some A =>
    obtain ⟨m,e,ho⟩:=h
    exact ⟨m,e,ho.keeps k⟩
def mvI (k : Int) : Int:=if k = oddI then 0 else k
def dZ (ks : List Int) : Int:=if oddI∈ks then ((pos ks oddI : Nat) : Int) else -1
def fZ (ks : List Int) (l : Int) (n : Nat) : Int:=if l∈ks.take n then ((pos ks l : Nat) : Int) else -1
theorem half_eq (d : Int) : (d - (d.tmod 2 + 2).tmod 2).tdiv 2 = d / 2:=by
  rcases Int.le_total 0 d with h | h
  · rw [Int.tmod_eq_emod_of_nonneg h,Int.tmod_eq_emod_of_nonneg (by omega)]
    rw [Int.tdiv_eq_ediv_of_nonneg (by omega)]
    omega
  · obtain ⟨n,rfl⟩ : ∃ n,d = -n:=⟨-d,by omega⟩
    rw [Int.neg_tmod,Int.tmod_eq_emod_of_nonneg (by omega : 0≤n),Int.tmod_eq_emod_of_nonneg (by omega)]
    have e : -n - (-(n % 2) + 2) % 2 = -(n + (-(n % 2) + 2) % 2):=by omega
    rw [e,Int.neg_tdiv,Int.tdiv_eq_ediv_of_nonneg (by omega)]
    omega
theorem tmod_2 (d : Int) : -1≤d.tmod 2∧d.tmod 2≤1:=by
  rcases Int.le_total 0 d with h | h
  · rw [Int.tmod_eq_emod_of_nonneg h]
    omega
  · obtain ⟨n,rfl⟩ : ∃ n,d = -n:=⟨-d,by omega⟩
    rw [Int.neg_tmod,Int.tmod_eq_emod_of_nonneg (by omega : 0≤n)]
    omega
theorem dZ_at {ks : List Int} (hn : ks.Nodup) {i : Nat} {k : Int} (h : ks[i]? = some k) : (((i : Nat) : Int) == dZ ks) = decide (k = oddI):=by
  obtain ⟨hi,he⟩:=List.getElem?_eq_some_iff.1 h
  unfold dZ
  by_cases hk : k = oddI
  · have hm : oddI∈ks:=by rw [← hk,← he]; exact List.getElem_mem hi
    have:=idx_of_get hn hi
    rw [he,hk] at this
    simp [hm,hk,this]
  · by_cases hm : oddI∈ks
    · obtain ⟨hlt,hq⟩:=idx_get hm
      have hne : i≠pos ks oddI:=by
        intro e
        subst e
        rw [hq] at he
        exact hk he.symm
      have hne' : ¬ ((i : Nat) : Int) = ((pos ks oddI : Nat) : Int):=by omega
      simp [hm,hk,hne']
    · simp [hm,hk]
theorem dZ_neg {ks : List Int} : (dZ ks < 0)↔oddI ∉ ks:=by
  unfold dZ
  split
  · next h => simp [h]
  · next h => simp [h]
theorem dZ_mem {ks : List Int} (h : oddI∈ks) : dZ ks = ((pos ks oddI : Nat) : Int):=if_pos h
theorem dZ_mem_enc {ks : List Int} (h : oddI∈ks) : [encI (dZ ks)] = [pos ks oddI].map encN:=by rw [dZ_mem h]; rfl
theorem dZ_add {ks : List Int} {l : Int} (h : l≠oddI) : dZ (addK ks l) = dZ ks:=by
  unfold dZ addK
  by_cases hl : l∈ks
  · simp [hl]
  · by_cases hm : oddI∈ks
    · have e : pos (ks++[l]) oddI = pos ks oddI:=idx_pre (List.prefix_append _ _) hm
      simp [hl,hm,e]
    · have : ¬ oddI = l:=fun e => h e.symm
      simp [hl,hm,this]
theorem fZ_zero (ks : List Int) (l : Int) : fZ ks l 0 = -1:=by simp [fZ]
theorem fZ_all (ks : List Int) (l : Int) : fZ ks l ks.length = if l∈ks then ((pos ks l : Nat) : Int) else -1:=by simp [fZ]
theorem fZ_hit {ks : List Int} (hn : ks.Nodup) {n : Nat} {l : Int} (h : ks[n]? = some l) : fZ ks l (n + 1) = (n : Int):=by
  obtain ⟨hi,he⟩:=List.getElem?_eq_some_iff.1 h
  have:=idx_of_get hn hi
  rw [he] at this
  have hm : l∈ks.take (n + 1):=by rw [List.take_add_one,h]; simp
  unfold fZ
  rw [if_pos hm,this]
theorem fZ_miss {ks : List Int} {n : Nat} {k l : Int} (h : ks[n]? = some k) (hk : k≠l) : fZ ks l (n + 1) = fZ ks l n:=by
  unfold fZ
  have e : l∈ks.take (n + 1)↔l∈ks.take n:=by
    rw [List.take_add_one,h]
    simp
    intro e
    exact absurd e.symm hk
  simp only [e]
theorem s_raw (kind : Int) (hkd : kind = 1∨kind = 2) (terms : List Int) (hT : Terms terms) (c0 : Int) (hc0 : c0≠oddI) (U : List Int) (hU : Closed (wd terms.length) (nxL kind (sumsF terms)) c0 U) (hUl : U.length≤150)
    (hUb : ∀ s∈U,-1100000000000≤s∧s≤1100000000000) (v : BV) (H : BH) (hv : Rd H 2 v (terms.map encI)) :
    FnDoes (gam base) 49 [encI kind,v,encI c0] H fun r K => RelR base H terms.length (some (linX kind c0 terms U),0) r K:=by
  obtain ⟨R,hR⟩ : ∃ R : BV→BH→Prop,R = fun r K => RelR base H terms.length (some (linX kind c0 terms U),0) r K:=⟨_,rfl⟩
  rw [← hR]
  refine FnDoes.of (fn:=ir49) rfl ?_
  have hl3:=hT.1
  obtain ⟨KS,hKS⟩ : ∃ KS,KS = metL (succs (wd terms.length) (nxL kind (sumsF terms))) c0 U.length:=⟨_,rfl⟩
  have hKl : KS.length≤U.length:=by rw [hKS]; exact hU.len _
  have hdone:=hU.done
  have hX : linX kind c0 terms U = autOf (wd terms.length) (nxL kind (sumsF terms)) (accL kind) KS:=by rw [hKS]; rfl
  rw [hX] at hR
  obtain ⟨nx,hnx⟩ : ∃ nx,nx = nxL kind (sumsF terms):=⟨_,rfl⟩
  rw [← hnx] at hR hU hdone hKS
  obtain ⟨t,ht⟩ : ∃ t,t = terms.length:=⟨_,rfl⟩
  rw [← ht] at hR hU hdone hKS hl3
  have hw:=wd_3 hl3
  have pre : ∀ i,metL (succs (wd t) nx) c0 i <+: KS:=fun i => by
    rcases Nat.le_total i U.length with h | h
    · rw [hKS]; exact met_pre h
    · rw [hdone.eq h,hKS]; exact List.prefix_refl _
  have hln : (terms.map encI).length = t:=by rw [List.length_map,ht]
  have hvl:=hv.lenM
  rw [← ht] at hvl
  simp [ir49,hv.isSl,hvl]
  intro n6 b6 f6
  simp [make_of f6 b6,hv.isSl,hvl]
  intro n9 b9 f9
  have o1:=Own.start (base:=base) (H:=H) |>.new f6 b6 (s:=.arr 25 [.int .i64 0,.int .i64 0,.nils,.nils]) |>.new f9 b9 (s:=.arr 25 [.int .i64 0,.int .i64 0,.nils,.nils])
  obtain ⟨K2,g2,o2⟩:=o1.putAll 0 (b:=n9) (n:=4) (ds:=[encN t,.int .i64 0,.nils,.nils]) rfl rfl rfl rfl (rt:=none) rfl
  simp [make_of f9 b9,g2]
  intro n10 b10 f10
  have o3:=o2.new f10 b10 (s:=.arr 2 [encI c0])
  simp [make_of f10 b10]
  obtain ⟨I,hI⟩ : ∃ I : Nat→Env→BH→Prop,I = (fun i e K => e 12 = encN i∧∃ v10 u w b10 bo wo vs fr,e 10 = v10∧e 11 = encI (dZ (metL (succs (wd t) nx) c0 i))∧i≤(metL (succs (wd t) nx) c0 i).length ∧
      Own base H K ([(wo,.arr 36 vs),(bo,.arr 4 (((KS.take i).map (accL kind)).map encB)),(b10,.arr 2 ((metL (succs (wd t) nx) c0 i).map fun k => encI (mvI k))),
        (some n9,.arr 25 [encN t,.int .i64 0,u,w]),(some n6,.arr 25 [.int .i64 0,.int .i64 0,.nils,.nils])]++fr) ∧
      Vec b10 v10 (metL (succs (wd t) nx) c0 i).length∧Vec bo u i∧Vec wo w i∧vs.length = i∧RowsOf 2 vs fr (((KS.take i).map fun k => rowU KS nx k (wd t)).map (·.map encN))):=⟨_,rfl⟩
  refine wpC_countK U.length [(0,encI kind),(1,v),(6,.ptr n6 0),(8,encN t),(9,.ptr n9 0)] I (i0:=0) ?_ ?_ ?_ (Nat.zero_le _) ?_
  · rfl
  · simp
  · rw [hI]
    refine ⟨by simp,.sl n10 0 1,.nils,.nils,some n10,none,none,[],[],by simp,by simp [metL,dZ,hc0.symm],Nat.zero_le _,?_,rfl,Vec.none,Vec.none,rfl,trivial⟩
    have e : ((metL (succs (wd t) nx) c0 0).map fun k => encI (mvI k)) = [encI c0]:=by simp [metL,mvI,hc0]
    rw [e]
    exact (o3.nil (.arr 4 [])).nil (.arr 36 [])
  clear o1 o2 o3 g2
  rintro i e K hi ⟨e0,e1,e6,e8,e9,-⟩ hh
  rw [hI] at hh
  obtain ⟨e12,v10,u,w,b10,bo,wo,vs,fr,e10,e11,hil,o,hv10,hu,hw',hvs,hrows⟩:=hh
  simp only [] at e0 e1 e6 e8 e9
  have wi:=wS (n:=i) (by omega)
  by_cases hlt : i < (metL (succs (wd t) nx) c0 i).length
  · have hiN : i < U.length:=Nat.lt_of_lt_of_le hlt (hU.len i)
    obtain ⟨k,hkk⟩ : ∃ k,(metL (succs (wd t) nx) c0 i)[i]? = some k:=⟨_,List.getElem?_eq_getElem hlt⟩
    have hkU : k∈U:=hU.met i k (List.mem_of_getElem? hkk)
    have hKSi : KS[i]? = some k:=by
      obtain ⟨r,hr⟩:=pre i
      rw [← hr,List.getElem?_append_left hlt]
      exact hkk
    have hiKS : i < KS.length:=(List.getElem?_eq_some_iff.1 hKSi).1
    have hnext : metL (succs (wd t) nx) c0 (i + 1) = lsU (metL (succs (wd t) nx) c0 i) nx k (wd t):=by rw [metL,hkk]; rfl
    have hpre : ∀ c,c≤wd t→lsU (metL (succs (wd t) nx) c0 i) nx k c <+: KS:=fun c hc => (lsU_pre hc).trans (by rw [← hnext]; exact pre (i + 1))
    simp [e12,e10,hv10.isSl,hv10.len,hlt]
    intro n13 b13 f13
    have o4:=o.new f13 b13 (s:=.arr 2 [])
    simp [make_of f13 b13]
    obtain ⟨J,hJ⟩ : ∃ J : Nat→Env→BH→Prop,J = (fun c e K => e 14 = encN c∧∃ v10 v13 b10 b13,e 10 = v10∧e 13 = v13∧e 11 = encI (dZ (lsU (metL (succs (wd t) nx) c0 i) nx k c)) ∧
      Own base H K ([(b13,.arr 2 ((rowU KS nx k c).map encN)),(wo,.arr 36 vs),(bo,.arr 4 (((KS.take i).map (accL kind)).map encB)),(b10,.arr 2 ((lsU (metL (succs (wd t) nx) c0 i) nx k c).map fun k => encI (mvI k))),
        (some n9,.arr 25 [encN t,.int .i64 0,u,w]),(some n6,.arr 25 [.int .i64 0,.int .i64 0,.nils,.nils])]++fr) ∧
      Vec b10 v10 (lsU (metL (succs (wd t) nx) c0 i) nx k c).length∧Vec b13 v13 c):=⟨_,rfl⟩
    refine wpC_countK (wd t) [(0,encI kind),(1,v),(6,.ptr n6 0),(8,encN t),(9,.ptr n9 0),(12,encN i)] J (i0:=0) ?_ ?_ ?_ (Nat.zero_le _) ?_
    · rfl
    · simp [e0,e1,e6,e8,e9,e12]
    · rw [hJ]
      exact ⟨by simp,v10,.sl n13 0 0,b10,some n13,by simp [e10],by simp,by simp [e11,lsU_zero],o4,hv10,rfl⟩
    clear e0 e1 e6 e8 e9 e12 e10 e11 o o4 hv10
    rintro c e K hc ⟨e0,e1,e6,e8,e9,e12,-⟩ hh
    rw [hJ] at hh
    obtain ⟨e14,v10,v13,b10,b13,e10,e13,e11,o,hv10,hv13⟩:=hh
    simp only [] at e0 e1 e6 e8 e9 e12
    have wc:=wS (n:=c) (by omega)
    obtain ⟨ls,hls⟩ : ∃ ls,ls = lsU (metL (succs (wd t) nx) c0 i) nx k c:=⟨_,rfl⟩
    have hlsp:=hpre c hc
    have hlnd : ls.Nodup:=by rw [hls]; exact addAll_nodup (met_nodup i)
    have hlsk : ls[i]? = some k:=by
      rw [hls]
      obtain ⟨r,hr⟩:=(lsU_pre (ks:=metL (succs (wd t) nx) c0 i) (nx:=nx) (k:=k) (Nat.zero_le c))
      rw [← hr,lsU_zero,List.getElem?_append_left hlt]
      exact hkk
    have hlsU : ∀ x∈ls,x∈U:=fun x hx => by
      rw [hls] at hx
      obtain ⟨r,hr⟩:=hlsp
      have : x∈KS:=by rw [← hr]; exact List.mem_append_left _ hx
      rw [hKS] at this
      exact hU.met _ x this
    rw [← hls] at o hv10 e11 hlsp
    have hll:=hlsp.length_le
    have hil2 : i < ls.length:=(List.getElem?_eq_some_iff.1 hlsk).1
    simp [e8,e14]
    refine callP (s_wide t K (by omega)) ?_
    by_cases hcw : c < wd t
    · have hlsp1:=hpre (c + 1) hcw
      have hsu : lsU (metL (succs (wd t) nx) c0 i) nx k (c + 1) = addK ls (nx k c):=by rw [lsU_succ,← hls]
      rw [hsu] at hlsp1
      have g10:=(o.rd 3 rfl (v:=v10) (by simpa using hv10)).at (i:=i) (by simpa using hil2) (rt:=some 2) rfl
      have gk : ls[i] = k:=(List.getElem?_eq_some_iff.1 hlsk).2
      have g10' : K.rd (some 2) none (v10.sat i 1) = some (encI (mvI k)):=by simpa [gk] using g10
      have hl3':=hT.1
      have hsum:=s_sum (base:=base) terms hT c (by omega) v K (ty:=2) rfl (hv.keeps o.keeps)
      have hb1:=hUb k hkU
      have hb2:=sumN_le hT c terms.length
      have hm : -1100000000000≤mvI k∧mvI k≤1100000000000:=by unfold mvI; split <;> omega
      obtain ⟨S,hS⟩ : ∃ S,S = sumN terms c terms.length:=⟨_,rfl⟩
      rw [← hS] at hsum hb2
      have wsub : IntKind.i64.wrap (mvI k - S) = mvI k - S:=w64 (by omega) (by omega)
      have hD:=dZ_at hlnd hlsk
      have hnk : nx k c = if k = oddI then oddI else if kind = 1∧(k - S).tmod 2≠0 then oddI else (k - S) / 2:=by rw [hnx,hS]; rfl
      simp [hcw,e10,e12,hv10.isSl,hv10.len,hil2,e1,e14,g10']
      refine callP hsum ?_
      have hadd : (nx k c)∈addK ls (nx k c):=mem_addK.2 (.inr rfl)
      have hpk : pos (addK ls (nx k c)) (nx k c) = pos KS (nx k c):=(idx_pre hlsp1 hadd).symm
      have hal:=hlsp1.length_le
      have hcases : ((((i : Nat) : Int) == dZ ls) = true∨(((i : Nat) : Int) == dZ ls) = false∧(kind == 1) = true∧((mvI k - S).tmod 2 != 0) = true)∧nx k c = oddI ∨
          (((i : Nat) : Int) == dZ ls) = false∧((kind == 1) = false∨(kind == 1) = true∧((mvI k - S).tmod 2 != 0) = false)∧nx k c = (mvI k - S) / 2:=by
        by_cases hk : k = oddI
        · exact .inl ⟨.inl (by rw [hD]; simp [hk]),by rw [hnk,if_pos hk]⟩
        · have hmk : mvI k = k:=if_neg hk
          rw [hnk,if_neg hk,hD,hmk]
          by_cases h1 : kind = 1
          · by_cases h2 : (k - S).tmod 2 = 0
            · exact .inr ⟨by simp [hk],.inr ⟨by simp [h1],by simp [h2]⟩,by rw [if_neg]; simp [h2]⟩
            · exact .inl ⟨.inr ⟨by simp [hk],by simp [h1],by simp [h2]⟩,by rw [if_pos ⟨h1,h2⟩]⟩
          · exact .inr ⟨by simp [hk],.inl (by simp [h1]),by rw [if_neg]; simp [h1]⟩
      rcases hcases with ⟨hdead,hl⟩ | ⟨hA,hB,hl⟩
      · have hneg:=dZ_neg (ks:=ls)
        rw [hl] at hadd hpk hal hsu
        rcases hdead with hA | ⟨hA,hB,hC⟩
        · simp [wsub,e0,e11,e12,hA]
          by_cases hm : oddI∈ls
          · have h0 : ¬ dZ ls < 0:=fun h => hneg.1 h hm
            have he : addK ls oddI = ls:=if_pos hm
            rw [he] at hpk hsu
            simp [h0,e11,e13]
            intro n1 b1 f1
            simp [make_of f1 b1]
            intro n2 b2 f2
            obtain ⟨v',K',b',q1,q2,q3⟩:=o.push 0 rfl (by simpa [rowU_len] using hv13) (x:=encI (dZ ls)) (bytes:=8) rfl (by simp [rowU_len]; omega) (by simp [rowU_len]; omega) f1 b1 f2 b2
            simp [q1,e14,wc,hcw]
            rw [hJ]
            simp only [hsu]
            refine ⟨by simp,v10,v',b10,some b',by simp [e10],by simp,by simp [e11],?_,hv10,by simpa [rowU_len] using q3⟩
            rw [rowU_succ,hl,← hpk,List.map_append,← dZ_mem_enc hm]
            exact q2
          · have h0 : dZ ls < 0:=hneg.2 hm
            have he : addK ls oddI = ls++[oddI]:=if_neg hm
            rw [he] at hpk hsu hal
            simp at hal
            have hp2 : pos (ls++[oddI]) oddI = ls.length:=by rw [← he]; exact idx_new hm
            have hdz : dZ (ls++[oddI]) = (ls.length : Int):=by rw [dZ_mem (by simp),hp2]
            simp [h0,e10,hv10.isSl,hv10.len]
            intro n3 b3 f3
            simp [make_of f3 b3]
            intro n4 b4 f4
            obtain ⟨v3,K3,b3',p1,p2,p3⟩:=o.push 3 rfl (by simpa using hv10) (x:=.int .i64 0) (bytes:=8) rfl (by simp; omega) (by simp; omega) f3 b3 f4 b4
            simp [p1,e13]
            intro n1 b1 f1
            simp [make_of f1 b1]
            intro n2 b2 f2
            have p2 : Own base H K3 ((b13,.arr 2 ((rowU KS nx k c).map encN))::(wo,.arr 36 vs)::(bo,.arr 4 (((KS.take i).map (accL kind)).map encB))::(some b3',.arr 2 ((ls++[oddI]).map fun k => encI (mvI k)))::(some n9,.arr 25 [encN t,.int .i64 0,u,w])::(some n6,.arr 25 [.int .i64 0,.int .i64 0,.nils,.nils])::fr):=by simpa [mvI] using p2
            obtain ⟨v',K',b',q1,q2,q3⟩:=p2.push 0 rfl (by simpa [rowU_len] using hv13) (x:=encN ls.length) (bytes:=8) rfl (by simp [rowU_len]; omega) (by simp [rowU_len]; omega) f1 b1 f2 b2
            simp [q1,e14,wc,hcw]
            rw [hJ]
            simp only [hsu]
            refine ⟨by simp,v3,v',some b3',some b',by simp,by simp,?_,?_,by simpa using p3,by simpa [rowU_len] using q3⟩
            · simp [hdz]
            · rw [rowU_succ,hl,← hpk,hp2,List.map_append]
              exact q2
        · simp [wsub,e0,e11,e12,hA,hB,hC]
          by_cases hm : oddI∈ls
          · have h0 : ¬ dZ ls < 0:=fun h => hneg.1 h hm
            have he : addK ls oddI = ls:=if_pos hm
            rw [he] at hpk hsu
            simp [h0,e11,e13]
            intro n1 b1 f1
            simp [make_of f1 b1]
            intro n2 b2 f2
            obtain ⟨v',K',b',q1,q2,q3⟩:=o.push 0 rfl (by simpa [rowU_len] using hv13) (x:=encI (dZ ls)) (bytes:=8) rfl (by simp [rowU_len]; omega) (by simp [rowU_len]; omega) f1 b1 f2 b2
            simp [q1,e14,wc,hcw]
            rw [hJ]
            simp only [hsu]
            refine ⟨by simp,v10,v',b10,some b',by simp [e10],by simp,by simp [e11],?_,hv10,by simpa [rowU_len] using q3⟩
            rw [rowU_succ,hl,← hpk,List.map_append,← dZ_mem_enc hm]
            exact q2
          · have h0 : dZ ls < 0:=hneg.2 hm
            have he : addK ls oddI = ls++[oddI]:=if_neg hm
            rw [he] at hpk hsu hal
            simp at hal
            have hp2 : pos (ls++[oddI]) oddI = ls.length:=by rw [← he]; exact idx_new hm
            have hdz : dZ (ls++[oddI]) = (ls.length : Int):=by rw [dZ_mem (by simp),hp2]
            simp [h0,e10,hv10.isSl,hv10.len]
            intro n3 b3 f3
            simp [make_of f3 b3]
            intro n4 b4 f4
            obtain ⟨v3,K3,b3',p1,p2,p3⟩:=o.push 3 rfl (by simpa using hv10) (x:=.int .i64 0) (bytes:=8) rfl (by simp; omega) (by simp; omega) f3 b3 f4 b4
            simp [p1,e13]
            intro n1 b1 f1
            simp [make_of f1 b1]
            intro n2 b2 f2
            have p2 : Own base H K3 ((b13,.arr 2 ((rowU KS nx k c).map encN))::(wo,.arr 36 vs)::(bo,.arr 4 (((KS.take i).map (accL kind)).map encB))::(some b3',.arr 2 ((ls++[oddI]).map fun k => encI (mvI k)))::(some n9,.arr 25 [encN t,.int .i64 0,u,w])::(some n6,.arr 25 [.int .i64 0,.int .i64 0,.nils,.nils])::fr):=by simpa [mvI] using p2
            obtain ⟨v',K',b',q1,q2,q3⟩:=p2.push 0 rfl (by simpa [rowU_len] using hv13) (x:=encN ls.length) (bytes:=8) rfl (by simp [rowU_len]; omega) (by simp [rowU_len]; omega) f1 b1 f2 b2
            simp [q1,e14,wc,hcw]
            rw [hJ]
            simp only [hsu]
            refine ⟨by simp,v3,v',some b3',some b',by simp,by simp,?_,?_,by simpa using p3,by simpa [rowU_len] using q3⟩
            · simp [hdz]
            · rw [rowU_succ,hl,← hpk,hp2,List.map_append]
              exact q2
      · obtain ⟨l,hll2⟩ : ∃ l,l = (mvI k - S) / 2:=⟨_,rfl⟩
        have hlo : l≠oddI:=by unfold oddI; omega
        have hr1:=tmod_2 (mvI k - S)
        have hr2:=tmod_2 ((mvI k - S).tmod 2 + 2)
        have wr1 : IntKind.i64.wrap ((mvI k - S).tmod 2 + 2) = (mvI k - S).tmod 2 + 2:=w64 (by omega) (by omega)
        have wr2 : IntKind.i64.wrap (mvI k - S - ((mvI k - S).tmod 2 + 2).tmod 2) = mvI k - S - ((mvI k - S).tmod 2 + 2).tmod 2:=w64 (by omega) (by omega)
        have hhe:=half_eq (mvI k - S)
        rw [← hll2] at hhe
        have wr3 : IntKind.i64.wrap l = l:=w64 (by omega) (by omega)
        rcases hB with hB | ⟨hB,hC⟩
        · simp [wsub,e0,e11,e12,hA,hB,wr1,wr2,hhe,wr3]
          have hnl : nx k c = l:=by rw [hl,hll2]
          rw [hnl] at hadd hpk hal hsu
          obtain ⟨T,hT2⟩ : ∃ T : Nat→Env→BH→Prop,T = (fun n e L => e 18 = encN n∧e 17 = encI (fZ ls l n)∧L = K):=⟨_,rfl⟩
          refine wpC_countK ls.length [(0,encI kind),(1,v),(6,.ptr n6 0),(8,encN t),(9,.ptr n9 0),(12,encN i),(10,v10),(11,encI (dZ ls)),(13,v13),(14,encN c),(16,encI l)] T (i0:=0) ?_ ?_ ?_ (Nat.zero_le _) ?_
          · rfl
          · simp [e0,e1,e6,e8,e9,e12,e10,e11,e13,e14]
          · rw [hT2]
            exact ⟨by simp,by simp [fZ_zero],rfl⟩
          clear e0 e1 e6 e8 e9 e12 e10 e11 e13 e14
          rintro n e L hn ⟨e0,e1,e6,e8,e9,e12,e10,e11,e13,e14,e16,-⟩ hh
          rw [hT2] at hh
          obtain ⟨e18,e17,rfl⟩:=hh
          simp only [] at e0 e1 e6 e8 e9 e12 e10 e11 e13 e14 e16
          have wn:=wS (n:=n) (by omega)
          by_cases hln : n < ls.length
          · obtain ⟨kn,hkn⟩ : ∃ kn,ls[n]? = some kn:=⟨_,List.getElem?_eq_getElem hln⟩
            have hkn' : ls[n] = kn:=(List.getElem?_eq_some_iff.1 hkn).2
            have hDn:=dZ_at hlnd hkn
            have gn:=(o.rd 3 rfl (v:=v10) (by simpa using hv10)).at (i:=n) (by simpa using hln) (rt:=none) rfl
            have gn' : L.rd none none (v10.sat n 1) = some (encI (mvI kn)):=by simpa [hkn'] using gn
            by_cases hko : kn = oddI
            · have hA2 : (((n : Nat) : Int) != dZ ls) = false:=by rw [bne,hDn]; simp [hko]
              have hmi:=fZ_miss hkn (l:=l) (by rw [hko]; exact hlo.symm)
              simp [e18,e10,hv10.isSl,hv10.len,hln,e11,hA2,wn]
              rw [hT2]
              exact ⟨by simp,by simp [e17,hmi],rfl⟩
            · have hA2 : (((n : Nat) : Int) != dZ ls) = true:=by rw [bne,hDn]; simp [hko]
              have hmv : mvI kn = kn:=if_neg hko
              rw [hmv] at gn'
              by_cases hkl : kn = l
              · have hhi:=fZ_hit hlnd (hkn.trans (by rw [hkl]))
                have hA3 : (kn == l) = true:=by simp [hkl]
                simp [e18,e10,hv10.isSl,hv10.len,hln,e11,hA2,gn',e16,hA3,wn]
                rw [hT2]
                exact ⟨by simp,by simp [hhi],rfl⟩
              · have hmi:=fZ_miss hkn hkl
                have hA3 : (kn == l) = false:=by simp [hkl]
                simp [e18,e10,hv10.isSl,hv10.len,hln,e11,hA2,gn',e16,hA3,wn]
                rw [hT2]
                exact ⟨by simp,by simp [e17,hmi],rfl⟩
          · have hne : n = ls.length:=by omega
            subst hne
            rw [fZ_all] at e17
            simp [e18,e10,hv10.isSl,hv10.len]
            by_cases hm : l∈ls
            · have he : addK ls l = ls:=if_pos hm
              rw [if_pos hm] at e17
              rw [he] at hpk hsu
              have h0 : ¬ ((pos ls l : Nat) : Int) < 0:=by omega
              simp [e17,h0,e13]
              intro n1 b1 f1
              simp [make_of f1 b1]
              intro n2 b2 f2
              obtain ⟨v',K',b',q1,q2,q3⟩:=o.push 0 rfl (by simpa [rowU_len] using hv13) (x:=encN (pos ls l)) (bytes:=8) rfl (by simp [rowU_len]; omega) (by simp [rowU_len]; omega) f1 b1 f2 b2
              simp [q1,e14,wc,hcw]
              rw [hJ]
              simp only [hsu]
              refine ⟨by simp,v10,v',b10,some b',by simp [e10],by simp,by simp [e11],?_,hv10,by simpa [rowU_len] using q3⟩
              rw [rowU_succ,hnl,← hpk,List.map_append]
              exact q2
            · have he : addK ls l = ls++[l]:=if_neg hm
              rw [if_neg hm] at e17
              have hdz:=dZ_add (ks:=ls) hlo
              rw [he] at hpk hsu hal hdz
              simp at hal
              have hp2 : pos (ls++[l]) l = ls.length:=by rw [← he]; exact idx_new hm
              have hml : mvI l = l:=if_neg hlo
              simp [e17,e10,hv10.isSl,hv10.len]
              intro n3 b3 f3
              simp [make_of f3 b3,e16]
              intro n4 b4 f4
              obtain ⟨v3,K3,b3',p1,p2,p3⟩:=o.push 3 rfl (by simpa using hv10) (x:=encI l) (bytes:=8) rfl (by simp; omega) (by simp; omega) f3 b3 f4 b4
              simp [p1,e13]
              intro n1 b1 f1
              simp [make_of f1 b1]
              intro n2 b2 f2
              have p2 : Own base H K3 ((b13,.arr 2 ((rowU KS nx k c).map encN))::(wo,.arr 36 vs)::(bo,.arr 4 (((KS.take i).map (accL kind)).map encB))::(some b3',.arr 2 ((ls++[l]).map fun k => encI (mvI k)))::(some n9,.arr 25 [encN t,.int .i64 0,u,w])::(some n6,.arr 25 [.int .i64 0,.int .i64 0,.nils,.nils])::fr):=by simpa [hml] using p2
              obtain ⟨v',K',b',q1,q2,q3⟩:=p2.push 0 rfl (by simpa [rowU_len] using hv13) (x:=encN ls.length) (bytes:=8) rfl (by simp [rowU_len]; omega) (by simp [rowU_len]; omega) f1 b1 f2 b2
              simp [q1,e14,wc,hcw]
              rw [hJ]
              simp only [hsu]
              refine ⟨by simp,v3,v',some b3',some b',by simp,by simp,by simp [e11,hdz],?_,by simpa using p3,by simpa [rowU_len] using q3⟩
              rw [rowU_succ,hnl,← hpk,hp2,List.map_append]
              exact q2
        · simp [wsub,e0,e11,e12,hA,hB,hC,wr1,wr2,hhe,wr3]
          have hnl : nx k c = l:=by rw [hl,hll2]
          rw [hnl] at hadd hpk hal hsu
          obtain ⟨T,hT2⟩ : ∃ T : Nat→Env→BH→Prop,T = (fun n e L => e 18 = encN n∧e 17 = encI (fZ ls l n)∧L = K):=⟨_,rfl⟩
          refine wpC_countK ls.length [(0,encI kind),(1,v),(6,.ptr n6 0),(8,encN t),(9,.ptr n9 0),(12,encN i),(10,v10),(11,encI (dZ ls)),(13,v13),(14,encN c),(16,encI l)] T (i0:=0) ?_ ?_ ?_ (Nat.zero_le _) ?_
          · rfl
          · simp [e0,e1,e6,e8,e9,e12,e10,e11,e13,e14]
          · rw [hT2]
            exact ⟨by simp,by simp [fZ_zero],rfl⟩
          clear e0 e1 e6 e8 e9 e12 e10 e11 e13 e14
          rintro n e L hn ⟨e0,e1,e6,e8,e9,e12,e10,e11,e13,e14,e16,-⟩ hh
          rw [hT2] at hh
          obtain ⟨e18,e17,rfl⟩:=hh
          simp only [] at e0 e1 e6 e8 e9 e12 e10 e11 e13 e14 e16
          have wn:=wS (n:=n) (by omega)
          by_cases hln : n < ls.length
          · obtain ⟨kn,hkn⟩ : ∃ kn,ls[n]? = some kn:=⟨_,List.getElem?_eq_getElem hln⟩
            have hkn' : ls[n] = kn:=(List.getElem?_eq_some_iff.1 hkn).2
            have hDn:=dZ_at hlnd hkn
            have gn:=(o.rd 3 rfl (v:=v10) (by simpa using hv10)).at (i:=n) (by simpa using hln) (rt:=none) rfl
            have gn' : L.rd none none (v10.sat n 1) = some (encI (mvI kn)):=by simpa [hkn'] using gn
            by_cases hko : kn = oddI
            · have hA2 : (((n : Nat) : Int) != dZ ls) = false:=by rw [bne,hDn]; simp [hko]
              have hmi:=fZ_miss hkn (l:=l) (by rw [hko]; exact hlo.symm)
              simp [e18,e10,hv10.isSl,hv10.len,hln,e11,hA2,wn]
              rw [hT2]
              exact ⟨by simp,by simp [e17,hmi],rfl⟩
            · have hA2 : (((n : Nat) : Int) != dZ ls) = true:=by rw [bne,hDn]; simp [hko]
              have hmv : mvI kn = kn:=if_neg hko
              rw [hmv] at gn'
              by_cases hkl : kn = l
              · have hhi:=fZ_hit hlnd (hkn.trans (by rw [hkl]))
                have hA3 : (kn == l) = true:=by simp [hkl]
                simp [e18,e10,hv10.isSl,hv10.len,hln,e11,hA2,gn',e16,hA3,wn]
                rw [hT2]
                exact ⟨by simp,by simp [hhi],rfl⟩
              · have hmi:=fZ_miss hkn hkl
                have hA3 : (kn == l) = false:=by simp [hkl]
                simp [e18,e10,hv10.isSl,hv10.len,hln,e11,hA2,gn',e16,hA3,wn]
                rw [hT2]
                exact ⟨by simp,by simp [e17,hmi],rfl⟩
          · have hne : n = ls.length:=by omega
            subst hne
            rw [fZ_all] at e17
            simp [e18,e10,hv10.isSl,hv10.len]
            by_cases hm : l∈ls
            · have he : addK ls l = ls:=if_pos hm
              rw [if_pos hm] at e17
              rw [he] at hpk hsu
              have h0 : ¬ ((pos ls l : Nat) : Int) < 0:=by omega
              simp [e17,h0,e13]
              intro n1 b1 f1
              simp [make_of f1 b1]
              intro n2 b2 f2
              obtain ⟨v',K',b',q1,q2,q3⟩:=o.push 0 rfl (by simpa [rowU_len] using hv13) (x:=encN (pos ls l)) (bytes:=8) rfl (by simp [rowU_len]; omega) (by simp [rowU_len]; omega) f1 b1 f2 b2
              simp [q1,e14,wc,hcw]
              rw [hJ]
              simp only [hsu]
              refine ⟨by simp,v10,v',b10,some b',by simp [e10],by simp,by simp [e11],?_,hv10,by simpa [rowU_len] using q3⟩
              rw [rowU_succ,hnl,← hpk,List.map_append]
              exact q2
            · have he : addK ls l = ls++[l]:=if_neg hm
              rw [if_neg hm] at e17
              have hdz:=dZ_add (ks:=ls) hlo
              rw [he] at hpk hsu hal hdz
              simp at hal
              have hp2 : pos (ls++[l]) l = ls.length:=by rw [← he]; exact idx_new hm
              have hml : mvI l = l:=if_neg hlo
              simp [e17,e10,hv10.isSl,hv10.len]
              intro n3 b3 f3
              simp [make_of f3 b3,e16]
              intro n4 b4 f4
              obtain ⟨v3,K3,b3',p1,p2,p3⟩:=o.push 3 rfl (by simpa using hv10) (x:=encI l) (bytes:=8) rfl (by simp; omega) (by simp; omega) f3 b3 f4 b4
              simp [p1,e13]
              intro n1 b1 f1
              simp [make_of f1 b1]
              intro n2 b2 f2
              have p2 : Own base H K3 ((b13,.arr 2 ((rowU KS nx k c).map encN))::(wo,.arr 36 vs)::(bo,.arr 4 (((KS.take i).map (accL kind)).map encB))::(some b3',.arr 2 ((ls++[l]).map fun k => encI (mvI k)))::(some n9,.arr 25 [encN t,.int .i64 0,u,w])::(some n6,.arr 25 [.int .i64 0,.int .i64 0,.nils,.nils])::fr):=by simpa [hml] using p2
              obtain ⟨v',K',b',q1,q2,q3⟩:=p2.push 0 rfl (by simpa [rowU_len] using hv13) (x:=encN ls.length) (bytes:=8) rfl (by simp [rowU_len]; omega) (by simp [rowU_len]; omega) f1 b1 f2 b2
              simp [q1,e14,wc,hcw]
              rw [hJ]
              simp only [hsu]
              refine ⟨by simp,v3,v',some b3',some b',by simp,by simp,by simp [e11,hdz],?_,by simpa using p3,by simpa [rowU_len] using q3⟩
              rw [rowU_succ,hnl,← hpk,hp2,List.map_append]
              exact q2
    · have hcc : c = wd t:=by omega
      subst hcc
      have nb : ¬ (1000 : Int) < (ls.length : Int):=by omega
      have gk : ls[i] = k:=(List.getElem?_eq_some_iff.1 hlsk).2
      have g10:=(o.rd 3 rfl (v:=v10) (by simpa using hv10)).at (i:=i) (by simpa using hil2) (rt:=none) rfl
      have g10' : K.rd none none (v10.sat i 1) = some (encI (mvI k)):=by simpa [gk] using g10
      have hD:=dZ_at hlnd hlsk
      have u1:=rd_ptr (o.at 4 (b:=n9) rfl) (rt:=none) (j:=2) (c:=u) rfl rfl
      have hti : (KS.take i).length = i:=by simp; omega
      have hta : (KS.take (i + 1)).map (accL kind) = (KS.take i).map (accL kind)++[accL kind k]:=by rw [List.take_add_one,hKSi]; simp
      have htr : ((KS.take (i + 1)).map fun k => rowU KS nx k (wd t)).map (·.map encN) = ((KS.take i).map fun k => rowU KS nx k (wd t)).map (·.map encN)++[(rowU KS nx k (wd t)).map encN]:=by rw [List.take_add_one,hKSi]; simp
      have hin : i + 1≤(metL (succs (wd t) nx) c0 (i + 1)).length:=by
        have:=(met_pre1 (sx:=succs (wd t) nx) (s:=c0) i).length_le
        omega
      have hacc : (((i : Nat) : Int) != dZ ls) = false∧accL kind k = false∨(((i : Nat) : Int) != dZ ls) = true∧mvI k = k∧((k == 0) = true∧accL kind k = true∨(k == 0) = false∧((kind == 2) = false∧accL kind k = false∨(kind == 2) = true∧accL kind k = decide (0 < k))):=by
        rw [bne,hD]
        by_cases hk : k = oddI
        · exact .inl ⟨by simp [hk],by simp [hk,accL,oddI]⟩
        · refine .inr ⟨by simp [hk],if_neg hk,?_⟩
          by_cases h0 : k = 0
          · exact .inl ⟨by simp [h0],by simp [h0,accL]⟩
          · refine .inr ⟨by simp [h0],?_⟩
            by_cases h2 : kind = 2
            · exact .inr ⟨by simp [h2],by simp [accL,h0,h2,hk]⟩
            · exact .inl ⟨by simp [h2],by simp [accL,h0,h2]⟩
      rcases hacc with ⟨hA,hav⟩ | ⟨hA,hmk,hB⟩
      · simp [e10,hv10.isSl,hv10.len,nb,e9,u1,e12,e11,hA]
        intro n1 b1 f1
        simp [make_of f1 b1]
        intro n2 b2 f2
        rw [← hav] at f2
        obtain ⟨v',K3,b',q1,o2,q3⟩:=o.push 2 rfl (v:=u) (by simp only [List.length_map,hti]; exact hu) (x:=encB (accL kind k)) (bytes:=1) rfl (by simp; omega) (by simp; omega) f1 b1 f2 b2
        rw [hav] at q1
        obtain ⟨K4,q2,o3⟩:=o2.put 4 rfl (j:=2) (u:=v') (by simp) q3.one (rt:=none) rfl
        simp [q1,q2,e9]
        have u2:=rd_ptr (o3.at 4 (b:=n9) rfl) (rt:=none) (j:=3) (c:=w) rfl rfl
        have h17:=hv13.one
        simp [u2,e13,h17,cells_one h17]
        intro n3 b3' f3
        simp [make_of f3 b3']
        intro n4 b4 f4
        obtain ⟨w',K5,c',p1,o4,p3⟩:=o3.push 1 rfl (v:=w) (by rw [hvs]; exact hw') (x:=v13) (bytes:=24) h17 (by omega) (by omega) f3 b3' f4 b4
        obtain ⟨K6,p2,o5⟩:=o4.put 4 rfl (j:=3) (u:=w') (by simp) p3.one (rt:=none) rfl
        simp [p1,p2,e9,e12,wi,hiN]
        rw [hI]
        refine ⟨by simp,v10,v',w',b10,some b',some c',vs++[v13],fr++[(b13,.arr 2 ((rowU KS nx k (wd t)).map encN))],by simp [e10],by simp [e11,hls,hnext],hin,?_,by rw [hnext,← hls]; exact hv10,?_,?_,by simp [hvs],?_⟩
        · refine Own.last (F:=[(some c',.arr 36 (vs++[v13])),(some b',.arr 4 (((KS.take (i + 1)).map (accL kind)).map encB)),(b10,.arr 2 ((metL (succs (wd t) nx) c0 (i + 1)).map fun k => encI (mvI k))),
            (some n9,.arr 25 [encN t,.int .i64 0,v',w']),(some n6,.arr 25 [.int .i64 0,.int .i64 0,.nils,.nils])]) ?_
          rw [hta,hnext,← hls]
          simpa using o5
        · simp only [List.length_map,hti] at q3
          exact q3
        · simpa [hvs] using p3
        · rw [htr]
          exact hrows.snoc (by simpa [rowU_len] using hv13)
      rw [hmk] at g10'
      rcases hB with ⟨hB,hav⟩ | ⟨hB,⟨hC,hav⟩ | ⟨hC,hav⟩⟩
      · simp [e10,hv10.isSl,hv10.len,nb,e9,u1,e12,e11,hA,hil2,g10',hB]
        intro n1 b1 f1
        simp [make_of f1 b1]
        intro n2 b2 f2
        rw [← hav] at f2
        obtain ⟨v',K3,b',q1,o2,q3⟩:=o.push 2 rfl (v:=u) (by simp only [List.length_map,hti]; exact hu) (x:=encB (accL kind k)) (bytes:=1) rfl (by simp; omega) (by simp; omega) f1 b1 f2 b2
        rw [hav] at q1
        obtain ⟨K4,q2,o3⟩:=o2.put 4 rfl (j:=2) (u:=v') (by simp) q3.one (rt:=none) rfl
        simp [q1,q2,e9]
        have u2:=rd_ptr (o3.at 4 (b:=n9) rfl) (rt:=none) (j:=3) (c:=w) rfl rfl
        have h17:=hv13.one
        simp [u2,e13,h17,cells_one h17]
        intro n3 b3' f3
        simp [make_of f3 b3']
        intro n4 b4 f4
        obtain ⟨w',K5,c',p1,o4,p3⟩:=o3.push 1 rfl (v:=w) (by rw [hvs]; exact hw') (x:=v13) (bytes:=24) h17 (by omega) (by omega) f3 b3' f4 b4
        obtain ⟨K6,p2,o5⟩:=o4.put 4 rfl (j:=3) (u:=w') (by simp) p3.one (rt:=none) rfl
        simp [p1,p2,e9,e12,wi,hiN]
        rw [hI]
        refine ⟨by simp,v10,v',w',b10,some b',some c',vs++[v13],fr++[(b13,.arr 2 ((rowU KS nx k (wd t)).map encN))],by simp [e10],by simp [e11,hls,hnext],hin,?_,by rw [hnext,← hls]; exact hv10,?_,?_,by simp [hvs],?_⟩
        · refine Own.last (F:=[(some c',.arr 36 (vs++[v13])),(some b',.arr 4 (((KS.take (i + 1)).map (accL kind)).map encB)),(b10,.arr 2 ((metL (succs (wd t) nx) c0 (i + 1)).map fun k => encI (mvI k))),
            (some n9,.arr 25 [encN t,.int .i64 0,v',w']),(some n6,.arr 25 [.int .i64 0,.int .i64 0,.nils,.nils])]) ?_
          rw [hta,hnext,← hls]
          simpa using o5
        · simp only [List.length_map,hti] at q3
          exact q3
        · simpa [hvs] using p3
        · rw [htr]
          exact hrows.snoc (by simpa [rowU_len] using hv13)
      · simp [e10,hv10.isSl,hv10.len,nb,e9,u1,e12,e11,hA,hil2,g10',hB,e0,hC]
        intro n1 b1 f1
        simp [make_of f1 b1]
        intro n2 b2 f2
        rw [← hav] at f2
        obtain ⟨v',K3,b',q1,o2,q3⟩:=o.push 2 rfl (v:=u) (by simp only [List.length_map,hti]; exact hu) (x:=encB (accL kind k)) (bytes:=1) rfl (by simp; omega) (by simp; omega) f1 b1 f2 b2
        rw [hav] at q1
        obtain ⟨K4,q2,o3⟩:=o2.put 4 rfl (j:=2) (u:=v') (by simp) q3.one (rt:=none) rfl
        simp [q1,q2,e9]
        have u2:=rd_ptr (o3.at 4 (b:=n9) rfl) (rt:=none) (j:=3) (c:=w) rfl rfl
        have h17:=hv13.one
        simp [u2,e13,h17,cells_one h17]
        intro n3 b3' f3
        simp [make_of f3 b3']
        intro n4 b4 f4
        obtain ⟨w',K5,c',p1,o4,p3⟩:=o3.push 1 rfl (v:=w) (by rw [hvs]; exact hw') (x:=v13) (bytes:=24) h17 (by omega) (by omega) f3 b3' f4 b4
        obtain ⟨K6,p2,o5⟩:=o4.put 4 rfl (j:=3) (u:=w') (by simp) p3.one (rt:=none) rfl
        simp [p1,p2,e9,e12,wi,hiN]
        rw [hI]
        refine ⟨by simp,v10,v',w',b10,some b',some c',vs++[v13],fr++[(b13,.arr 2 ((rowU KS nx k (wd t)).map encN))],by simp [e10],by simp [e11,hls,hnext],hin,?_,by rw [hnext,← hls]; exact hv10,?_,?_,by simp [hvs],?_⟩
        · refine Own.last (F:=[(some c',.arr 36 (vs++[v13])),(some b',.arr 4 (((KS.take (i + 1)).map (accL kind)).map encB)),(b10,.arr 2 ((metL (succs (wd t) nx) c0 (i + 1)).map fun k => encI (mvI k))),
            (some n9,.arr 25 [encN t,.int .i64 0,v',w']),(some n6,.arr 25 [.int .i64 0,.int .i64 0,.nils,.nils])]) ?_
          rw [hta,hnext,← hls]
          simpa using o5
        · simp only [List.length_map,hti] at q3
          exact q3
        · simpa [hvs] using p3
        · rw [htr]
          exact hrows.snoc (by simpa [rowU_len] using hv13)
      · simp [e10,hv10.isSl,hv10.len,nb,e9,u1,e12,e11,hA,hil2,g10',hB,e0,hC]
        intro n1 b1 f1
        simp [make_of f1 b1]
        intro n2 b2 f2
        rw [← hav] at f2
        obtain ⟨v',K3,b',q1,o2,q3⟩:=o.push 2 rfl (v:=u) (by simp only [List.length_map,hti]; exact hu) (x:=encB (accL kind k)) (bytes:=1) rfl (by simp; omega) (by simp; omega) f1 b1 f2 b2
        rw [hav] at q1
        obtain ⟨K4,q2,o3⟩:=o2.put 4 rfl (j:=2) (u:=v') (by simp) q3.one (rt:=none) rfl
        simp [q1,q2,e9]
        have u2:=rd_ptr (o3.at 4 (b:=n9) rfl) (rt:=none) (j:=3) (c:=w) rfl rfl
        have h17:=hv13.one
        simp [u2,e13,h17,cells_one h17]
        intro n3 b3' f3
        simp [make_of f3 b3']
        intro n4 b4 f4
        obtain ⟨w',K5,c',p1,o4,p3⟩:=o3.push 1 rfl (v:=w) (by rw [hvs]; exact hw') (x:=v13) (bytes:=24) h17 (by omega) (by omega) f3 b3' f4 b4
        obtain ⟨K6,p2,o5⟩:=o4.put 4 rfl (j:=3) (u:=w') (by simp) p3.one (rt:=none) rfl
        simp [p1,p2,e9,e12,wi,hiN]
        rw [hI]
        refine ⟨by simp,v10,v',w',b10,some b',some c',vs++[v13],fr++[(b13,.arr 2 ((rowU KS nx k (wd t)).map encN))],by simp [e10],by simp [e11,hls,hnext],hin,?_,by rw [hnext,← hls]; exact hv10,?_,?_,by simp [hvs],?_⟩
        · refine Own.last (F:=[(some c',.arr 36 (vs++[v13])),(some b',.arr 4 (((KS.take (i + 1)).map (accL kind)).map encB)),(b10,.arr 2 ((metL (succs (wd t) nx) c0 (i + 1)).map fun k => encI (mvI k))),
            (some n9,.arr 25 [encN t,.int .i64 0,v',w']),(some n6,.arr 25 [.int .i64 0,.int .i64 0,.nils,.nils])]) ?_
          rw [hta,hnext,← hls]
          simpa using o5
        · simp only [List.length_map,hti] at q3
          exact q3
        · simpa [hvs] using p3
        · rw [htr]
          exact hrows.snoc (by simpa [rowU_len] using hv13)
  · have hie : i = (metL (succs (wd t) nx) c0 i).length:=by omega
    have hdi : Done (wd t) nx c0 i:=by unfold Done DoneL; omega
    have hKi : metL (succs (wd t) nx) c0 i = KS:=by
      rw [hKS]
      exact DoneL.same hdi hdone
    rw [hKi] at hie o
    have htk : KS.take i = KS:=by rw [hie,List.take_length]
    rw [htk] at o hrows
    have r1:=rd_all (o.at 3 (b:=n9) rfl) (n:=4) (rt:=none) rfl rfl
    obtain ⟨K9,q9,o9⟩:=o.putAll 4 (b:=n6) (n:=4) (ds:=[encN t,.int .i64 0,u,w]) rfl rfl rfl (by simp [hu.one,hw'.one]) (rt:=none) rfl
    have r9:=rd_all (o9.at 4 (b:=n6) rfl) (n:=4) (rt:=none) rfl rfl
    have hlt' : ¬ i < (metL (succs (wd t) nx) c0 i).length:=hlt
    simp [e12,e10,hv10.isSl,hv10.len,hlt',e9,r1,e6,q9,r9]
    rw [hR]
    refine ⟨o9.keeps,_,rfl,u,w,bo,wo,vs,fr,rfl,?_,by simpa [autOf,← hie] using hu,by rw [hvs]; exact hw',by simpa [autOf,rowU] using hrows⟩
    have o10 : Own base H K9 ((wo,.arr 36 vs)::(bo,.arr 4 ((KS.map (accL kind)).map encB))::fr):=o9.sub (.cons_cons _ (.cons_cons _ (.cons _ (.cons _ (.cons _ (List.Sublist.refl _))))))
    exact o10.perm (List.Perm.swap _ _ _)
def plU2 (t n : Nat) : List Pl:=none::((List.range n).flatMap fun q => (List.range (2 ^ t)).map fun m => some (q,m))
theorem plU2_len (t n : Nat) : (plU2 t n).length = 2 ^ t * n + 1:=by
  have : ∀ n,((List.range n).flatMap fun q => (List.range (2 ^ t)).map fun m => (some (q,m) : Pl)).length = 2 ^ t * n:=by
    intro n
    induction n with
    | zero => rfl
    | succ n ih => rw [List.range_succ (n:=n),List.flatMap_append,List.length_append,ih]; simp [Nat.mul_succ]
  simp only [plU2,List.length_cons,this]
theorem mem_plU2 {t n q m : Nat} : some (q,m)∈plU2 t n↔q < n∧m < 2 ^ t:=by
  simp [plU2]
theorem plU2_closed {t : Nat} {X : Aut} (h : X.Ok (wd t)) {s : Nat} (hs : s < X.acc.length) : Closed (wd t) (plNx t X) (some (s,0)) (plU2 t X.acc.length):=by
  refine ⟨mem_plU2.2 ⟨hs,Nat.two_pow_pos t⟩,fun k hk c hc => ?_⟩
  cases k with
  | none => exact List.mem_cons_self
  | some p =>
    obtain ⟨q,m⟩:=p
    obtain ⟨h1,h2⟩:=mem_plU2.1 hk
    rw [plNx_some]
    split
    · exact mem_plU2.2 ⟨h.to h1 hc,padsN_lt t c⟩
    · exact List.mem_cons_self
theorem TA_len2 {t : Nat} {X : Aut} (h : X.Ok (wd t)) {s : Nat} (hs : s < X.acc.length) : (TA t (X.lang s)).acc.length≤2 ^ t * X.acc.length + 1:=by
  obtain ⟨h1,h2,h3⟩:=autOf_met (a:=plAcc X) (plU2_closed h hs)
  exact Nat.le_trans (TA_small h1 h1.pos fun cs hc => (h3 cs hc).trans (pl_lang t X cs s 0)).2 (Nat.le_trans h2 (Nat.le_of_eq (plU2_len _ _)))
theorem TA_idem {t : Nat} (ht : t≤3) {X : Aut} (h : X.Ok (wd t)) {s : Nat} (hs : s < X.acc.length) : TA t ((TA t (X.lang s)).lang 0) = TA t (X.lang s):=TA_congr fun cs hc hr => by
  rw [(TA_spec ht h hs).1.lang hc]
  simp [rl,hr]
theorem joinN_TA {t : Nat} (ht : t≤3) {op : Bool→Bool→Bool} {X : Aut} (h : X.Ok (wd t)) {s : Nat} (hs : s < X.acc.length) (M : List Nat→Bool) : joinN t op ((TA t (X.lang s)).lang 0) M = joinN t op (X.lang s) M:=by
  have e : TA t (fun cs => op ((TA t (X.lang s)).lang 0 cs) (M cs)) = TA t fun cs => op (X.lang s cs) (M cs):=TA_congr fun cs hc hr => by
    rw [(TA_spec ht h hs).1.lang hc]
    simp [rl,hr]
  unfold joinN
  rw [TA_idem ht h hs,e]
theorem linN_book {kind c0 : Int} {terms U : List Int} (h3 : terms.length≤3) (hU : Closed (wd terms.length) (nxL kind (sumsF terms)) c0 U) (hU2 : 2 ^ terms.length * U.length + 1≤150) :
    linN kind c0 terms U = joinN terms.length (fun a b => a && b) ((linX kind c0 terms U).lang 0) ((TA terms.length (LD (List.range terms.length))).lang 0):=by
  obtain ⟨hX,hl,-⟩:=linX_ok hU
  have h1:=TA_len2 hX hX.pos
  have h2 : 2 ^ terms.length * (linX kind c0 terms U).acc.length≤2 ^ terms.length * U.length:=Nat.mul_le_mul_left _ hl
  unfold linN told
  rw [if_neg (by omega)]
  exact joinN_TA h3 hX hX.pos _
theorem s_LinearRelation (kind : Int) (hkd : kind = 1∨kind = 2) (terms : List Int) (hT : Terms terms) (h0 : 1≤terms.length) (c0 : Int) (hc : -1000≤c0∧c0≤1000) (U : List Int) (hU : Closed (wd terms.length) (nxL kind (sumsF terms)) c0 U) (hU2 : 2 ^ terms.length * U.length + 1≤150)
    (hUb : ∀ s∈U,-1100000000000≤s∧s≤1100000000000) (v : BV) (H : BH) (hv : Rd H 2 v (terms.map encI)) :
    FnDoes (gam base) 18 [encI kind,v,encI c0] H fun r K => RelR base H terms.length (linN kind c0 terms U) r K:=by
  have hl3:=hT.1
  have hp2 : 1≤2 ^ terms.length:=Nat.one_le_two_pow
  have hUl : U.length≤150:=by
    have : 1 * U.length≤2 ^ terms.length * U.length:=Nat.mul_le_mul_right _ hp2
    omega
  rw [linN_book hl3 hU hU2]
  obtain ⟨R,hR⟩ : ∃ R : BV→BH→Prop,R = fun r K => RelR base H terms.length (joinN terms.length (fun a b => a && b) ((linX kind c0 terms U).lang 0) ((TA terms.length (LD (List.range terms.length))).lang 0)) r K:=⟨_,rfl⟩
  rw [← hR]
  refine FnDoes.of (fn:=ir18) rfl ?_
  obtain ⟨hX,hXl,-⟩:=linX_ok hU
  obtain ⟨X,hXe⟩ : ∃ X,X = linX kind c0 terms U:=⟨_,rfl⟩
  have hraw:=s_raw (base:=base) kind hkd terms hT c0 (by unfold oddI; omega) U hU hUl hUb v
  rw [← hXe] at hR hX hXl hraw
  obtain ⟨t,ht⟩ : ∃ t,t = terms.length:=⟨_,rfl⟩
  have hvl:=hv.lenM
  rw [← ht] at hR hX hraw hvl
  simp [ir18]
  intro n6 b6 f6
  have o1:=Own.start (base:=base) (H:=H) |>.new f6 b6 (s:=.arr 25 [.int .i64 0,.int .i64 0,.nils,.nils])
  have hk : ((kind != 1) = true∧(kind != 2) = false)∨(kind != 1) = false:=by
    rcases hkd with rfl | rfl
    · exact .inr rfl
    · exact .inl ⟨rfl,rfl⟩
  have hin1 : inB (t : Int) 1 3 = true:=by unfold inB; simp; omega
  have hin2 : inB c0 (-1000) 1000 = true:=by unfold inB; simp; omega
  have hs1:=s_in (base:=base) (t : Int) 1 3 (H.set n6 (.arr 25 [.int .i64 0,.int .i64 0,.nils,.nils]))
  have hs2:=s_in (base:=base) c0 (-1000) 1000 (H.set n6 (.arr 25 [.int .i64 0,.int .i64 0,.nils,.nils]))
  rw [hin1] at hs1
  rw [hin2] at hs2
  rcases hk with ⟨hk1,hk2⟩ | hk1
  · simp [make_of f6 b6,hk1,hk2,hv.isSl,hvl]
    refine callP hs1 ?_
    simp
    refine callP hs2 ?_
    simp
    obtain ⟨H1,hH1⟩ : ∃ H1,H1 = H.set n6 (.arr 25 [.int .i64 0,.int .i64 0,.nils,.nils]):=⟨_,rfl⟩
    rw [← hH1] at o1
    rw [← hH1]
    obtain ⟨I,hI⟩ : ∃ I : Nat→Env→BH→Prop,I = (fun i e K => e 8 = encN i∧K = H1):=⟨_,rfl⟩
    refine wpC_countK t [(0,encI kind),(1,v),(2,encI c0),(6,.ptr n6 0)] I (i0:=0) ?_ ?_ ?_ (Nat.zero_le _) ?_
    · rfl
    · simp
    · rw [hI]
      exact ⟨by simp,rfl⟩
    rintro i e K hi ⟨e0,e1,e2,e6,-⟩ hh
    rw [hI] at hh
    obtain ⟨e8,rfl⟩:=hh
    simp only [] at e0 e1 e2 e6
    have wi:=wS (n:=i) (by omega)
    by_cases hlt : i < t
    · have gi:=(hv.keeps o1.keeps).at (i:=i) (by omega) (rt:=none) rfl
      have hti : i < terms.length:=by omega
      have gi' : K.rd none none (v.sat i 1) = some (encI terms[i]):=by simpa using gi
      have hg:=hT.2 _ (List.getElem_mem hti)
      have hin3 : inB terms[i] (-20) 20 = true:=by unfold inB; simp; omega
      have hs3:=s_in (base:=base) terms[i] (-20) 20 K
      rw [hin3] at hs3
      simp [e1,e8,hv.isSl,hvl,hlt,gi']
      refine callP hs3 ?_
      simp [e8,wi,hlt]
      rw [hI]
      exact ⟨by simp,rfl⟩
    · simp [e0,e1,e2,e8,hv.isSl,hvl,hlt]
      refine (hraw K (hv.keeps o1.keeps)).step fun r K1 k1 hr => ?_
      obtain ⟨m,rfl,hm⟩:=hr
      have hm:=hm.rd
      obtain ⟨u,w,rfl,hu,hw⟩:=id hm
      have u1:=hu.one
      have w1:=one_of_isSl hw.isSl
      simp [u1,w1]
      intro n9 b9 f9
      obtain ⟨K2,g2,o2⟩:=(Own.start (base:=base) (H:=K1) |>.new f9 b9 (s:=.arr 25 [.int .i64 0,.int .i64 0,.nils,.nils])).putAll 0 (b:=n9) rfl (n:=4) (ds:=[encN t,encN 0,u,w]) rfl rfl (by simp [u1,w1]) (rt:=none) rfl
      have r9:=rd_all (o2.at 0 (b:=n9) rfl) (n:=4) (rt:=none) rfl rfl
      simp [make_of f9 b9,g2,r9]
      have hm2:=hm.keeps o2.keeps
      refine (s_told (base:=base) t 0 X _ K2 hm2 (by omega)).step fun r K3 k3 hr => ?_
      rw [if_neg (by omega)] at hr
      subst hr
      simp [u1,w1]
      intro n11 b11 f11
      obtain ⟨K4,g4,o4⟩:=(Own.start (base:=base) (H:=K3) |>.new f11 b11 (s:=.arr 25 [.int .i64 0,.int .i64 0,.nils,.nils])).putAll 0 (b:=n11) rfl (n:=4) (ds:=[encN t,encN 0,u,w]) rfl rfl (by simp [u1,w1]) (rt:=none) rfl
      have hm4:=hm2.keeps (k3.trans o4.keeps)
      simp [make_of f11 b11,g4]
      refine (s_domain (base:=base) K4).step fun r K5 k5 hr => ?_
      rw [LD_dom] at hr
      have hd:=hr.rd
      obtain ⟨du,dw,rfl,hdu,hdw⟩:=id hd
      have du1:=hdu.one
      have dw1:=one_of_isSl hdw.isSl
      simp [du1,dw1]
      intro n13 b13 f13
      obtain ⟨K6,g6,o6⟩:=(Own.start (base:=base) (H:=K5) |>.new f13 b13 (s:=.arr 28 [.int .i64 0,.int .i64 0,.nils,.nils,.nils])).putAll 0 (b:=n13) rfl (n:=5) (ds:=[encN 1,encN 0,du,dw,.nils]) rfl rfl (by simp [du1,dw1]) (rt:=none) rfl
      simp [make_of f13 b13,g6,e1,hv.isSl,hvl]
      refine (s_frame (base:=base) t n13 (by omega) (by omega) du dw .nils K6 (o6.at 0 (b:=n13) rfl) (hd.keeps o6.keeps)).step fun r K7 k7 hr => ?_
      obtain ⟨mf,rfl,hmf⟩:=hr
      obtain ⟨fu,fw,rfl,hfu,hfw⟩:=id hmf
      have fu1:=hfu.one
      have fw1:=one_of_isSl hfw.isSl
      simp [fu1,fw1]
      intro n14 b14 f14
      obtain ⟨K8,g8,o8⟩:=(Own.start (base:=base) (H:=K7) |>.new f14 b14 (s:=.arr 25 [.int .i64 0,.int .i64 0,.nils,.nils])).putAll 0 (b:=n14) rfl (n:=4) (ds:=[encN t,encN 0,fu,fw]) rfl rfl (by simp [fu1,fw1]) (rt:=none) rfl
      have k8:=((k5.trans o6.keeps).trans k7).trans o8.keeps
      have p11:=rd_keeps k8 (rd_all (o4.at 0 (b:=n11) rfl) (n:=4) (rt:=none) rfl rfl)
      have p14:=rd_all (o8.at 0 (b:=n14) rfl) (n:=4) (rt:=none) rfl rfl
      simp [make_of f14 b14,g8,p11,p14]
      obtain ⟨hD1,hD2⟩:=LD_small (t:=t) (by omega) (S:=List.range t) (fun k hk => List.mem_range.1 hk)
      refine (s_both (base:=base) t 0 0 (by omega) (by omega) _ _ _ _ K8 (hm4.keeps k8) (hmf.keeps o8.keeps) hX hD1.ok hX.pos hD1.ok.pos (by omega) (by omega)).step fun r K9 k9 hr => ?_
      obtain ⟨m,K10,e8',g10,r10,kk,hrel⟩:=rel_end (base:=base) (o1.call (k1.trans (o2.keeps.trans (k3.trans (o4.keeps.trans k8))))) (i:=0) (n2:=n6) rfl rfl k9 hr
      subst e8'
      simp [e6,g10,r10]
      rw [hR]
      exact ⟨kk,hrel⟩
  · simp [make_of f6 b6,hk1,hv.isSl,hvl]
    refine callP hs1 ?_
    simp
    refine callP hs2 ?_
    simp
    obtain ⟨H1,hH1⟩ : ∃ H1,H1 = H.set n6 (.arr 25 [.int .i64 0,.int .i64 0,.nils,.nils]):=⟨_,rfl⟩
    rw [← hH1] at o1
    rw [← hH1]
    obtain ⟨I,hI⟩ : ∃ I : Nat→Env→BH→Prop,I = (fun i e K => e 8 = encN i∧K = H1):=⟨_,rfl⟩
    refine wpC_countK t [(0,encI kind),(1,v),(2,encI c0),(6,.ptr n6 0)] I (i0:=0) ?_ ?_ ?_ (Nat.zero_le _) ?_
    · rfl
    · simp
    · rw [hI]
      exact ⟨by simp,rfl⟩
    rintro i e K hi ⟨e0,e1,e2,e6,-⟩ hh
    rw [hI] at hh
    obtain ⟨e8,rfl⟩:=hh
    simp only [] at e0 e1 e2 e6
    have wi:=wS (n:=i) (by omega)
    by_cases hlt : i < t
    · have gi:=(hv.keeps o1.keeps).at (i:=i) (by omega) (rt:=none) rfl
      have hti : i < terms.length:=by omega
      have gi' : K.rd none none (v.sat i 1) = some (encI terms[i]):=by simpa using gi
      have hg:=hT.2 _ (List.getElem_mem hti)
      have hin3 : inB terms[i] (-20) 20 = true:=by unfold inB; simp; omega
      have hs3:=s_in (base:=base) terms[i] (-20) 20 K
      rw [hin3] at hs3
      simp [e1,e8,hv.isSl,hvl,hlt,gi']
      refine callP hs3 ?_
      simp [e8,wi,hlt]
      rw [hI]
      exact ⟨by simp,rfl⟩
    · simp [e0,e1,e2,e8,hv.isSl,hvl,hlt]
      refine (hraw K (hv.keeps o1.keeps)).step fun r K1 k1 hr => ?_
      obtain ⟨m,rfl,hm⟩:=hr
      have hm:=hm.rd
      obtain ⟨u,w,rfl,hu,hw⟩:=id hm
      have u1:=hu.one
      have w1:=one_of_isSl hw.isSl
      simp [u1,w1]
      intro n9 b9 f9
      obtain ⟨K2,g2,o2⟩:=(Own.start (base:=base) (H:=K1) |>.new f9 b9 (s:=.arr 25 [.int .i64 0,.int .i64 0,.nils,.nils])).putAll 0 (b:=n9) rfl (n:=4) (ds:=[encN t,encN 0,u,w]) rfl rfl (by simp [u1,w1]) (rt:=none) rfl
      have r9:=rd_all (o2.at 0 (b:=n9) rfl) (n:=4) (rt:=none) rfl rfl
      simp [make_of f9 b9,g2,r9]
      have hm2:=hm.keeps o2.keeps
      refine (s_told (base:=base) t 0 X _ K2 hm2 (by omega)).step fun r K3 k3 hr => ?_
      rw [if_neg (by omega)] at hr
      subst hr
      simp [u1,w1]
      intro n11 b11 f11
      obtain ⟨K4,g4,o4⟩:=(Own.start (base:=base) (H:=K3) |>.new f11 b11 (s:=.arr 25 [.int .i64 0,.int .i64 0,.nils,.nils])).putAll 0 (b:=n11) rfl (n:=4) (ds:=[encN t,encN 0,u,w]) rfl rfl (by simp [u1,w1]) (rt:=none) rfl
      have hm4:=hm2.keeps (k3.trans o4.keeps)
      simp [make_of f11 b11,g4]
      refine (s_domain (base:=base) K4).step fun r K5 k5 hr => ?_
      rw [LD_dom] at hr
      have hd:=hr.rd
      obtain ⟨du,dw,rfl,hdu,hdw⟩:=id hd
      have du1:=hdu.one
      have dw1:=one_of_isSl hdw.isSl
      simp [du1,dw1]
      intro n13 b13 f13
      obtain ⟨K6,g6,o6⟩:=(Own.start (base:=base) (H:=K5) |>.new f13 b13 (s:=.arr 28 [.int .i64 0,.int .i64 0,.nils,.nils,.nils])).putAll 0 (b:=n13) rfl (n:=5) (ds:=[encN 1,encN 0,du,dw,.nils]) rfl rfl (by simp [du1,dw1]) (rt:=none) rfl
      simp [make_of f13 b13,g6,e1,hv.isSl,hvl]
      refine (s_frame (base:=base) t n13 (by omega) (by omega) du dw .nils K6 (o6.at 0 (b:=n13) rfl) (hd.keeps o6.keeps)).step fun r K7 k7 hr => ?_
      obtain ⟨mf,rfl,hmf⟩:=hr
      obtain ⟨fu,fw,rfl,hfu,hfw⟩:=id hmf
      have fu1:=hfu.one
      have fw1:=one_of_isSl hfw.isSl
      simp [fu1,fw1]
      intro n14 b14 f14
      obtain ⟨K8,g8,o8⟩:=(Own.start (base:=base) (H:=K7) |>.new f14 b14 (s:=.arr 25 [.int .i64 0,.int .i64 0,.nils,.nils])).putAll 0 (b:=n14) rfl (n:=4) (ds:=[encN t,encN 0,fu,fw]) rfl rfl (by simp [fu1,fw1]) (rt:=none) rfl
      have k8:=((k5.trans o6.keeps).trans k7).trans o8.keeps
      have p11:=rd_keeps k8 (rd_all (o4.at 0 (b:=n11) rfl) (n:=4) (rt:=none) rfl rfl)
      have p14:=rd_all (o8.at 0 (b:=n14) rfl) (n:=4) (rt:=none) rfl rfl
      simp [make_of f14 b14,g8,p11,p14]
      obtain ⟨hD1,hD2⟩:=LD_small (t:=t) (by omega) (S:=List.range t) (fun k hk => List.mem_range.1 hk)
      refine (s_both (base:=base) t 0 0 (by omega) (by omega) _ _ _ _ K8 (hm4.keeps k8) (hmf.keeps o8.keeps) hX hD1.ok hX.pos hD1.ok.pos (by omega) (by omega)).step fun r K9 k9 hr => ?_
      obtain ⟨m,K10,e8',g10,r10,kk,hrel⟩:=rel_end (base:=base) (o1.call (k1.trans (o2.keeps.trans (k3.trans (o4.keeps.trans k8))))) (i:=0) (n2:=n6) rfl rfl k9 hr
      subst e8'
      simp [e6,g10,r10]
      rw [hR]
      exact ⟨kk,hrel⟩
theorem met_all {κ : Type} [DecidableEq κ] {sx : κ→List κ} {s : κ} {P : κ→Prop} (h0 : P s) (hn : ∀ k,P k→∀ l∈sx k,P l) : ∀ i,∀ k∈metL sx s i,P k
  | 0,k,hk => by
    simp [metL] at hk
    subst hk
    exact h0
  | i + 1,k,hk => by
    rw [metL] at hk
    split at hk
    · rename_i k' hk'
      rcases mem_addAll.1 hk with h1 | h1
      · exact met_all h0 hn i k h1
      · exact hn _ (met_all h0 hn i _ (List.mem_of_getElem? hk')) _ h1
    · exact met_all h0 hn i k hk
theorem i_grow_stringL {κ : Type} [DecidableEq κ] (enc : κ→BV) (h1 : ∀ k,(enc k).one = true) (he : ∀ k l,keyEqM 1 (enc k) (enc l) = some (decide (k = l))) (hk : ∀ k,keyOk 1 (enc k) = true) (t : Nat) (ht : t≤3) (s : κ) (lim : Nat)
    (fa fn : Nat) (ca cn : List BV) (nx : κ→Nat→κ) (a : κ→Bool) (P : κ→Prop) (hP0 : P s) (hPn : ∀ k,P k→∀ c,c < wd t→P (nx k c)) (hl0 : 0 < lim) (hlN : lim≤1000000) (H : BH)
    (ha : ∀ K,H.Keeps K→∀ k,P k→FnDoes (gam base) fa (enc k::ca) K fun v _ => v = .bool (a k)) (hn : ∀ K,H.Keeps K→∀ k,P k→∀ c,c < wd t→FnDoes (gam base) fn (enc k::encN c::cn) K fun v _ => v = enc (nx k c)) :
    FnDoes (gam base) 172 [encN t,enc s,encN lim,.fn fa ca,.fn fn cn] H fun v K => GrowR base H t lim (autOf (wd t) nx a (metL (succs (wd t) nx) s lim)) v K:=by
  refine FnDoes.of (fn:=ir172) rfl ?_
  obtain ⟨KS,hKS⟩ : ∃ KS,KS = metL (succs (wd t) nx) s lim:=⟨_,rfl⟩
  rw [← hKS]
  have hw:=wd_3 ht
  have h2 : ∀ k,(enc k).cells = [enc k]:=fun k => cells_one (h1 k)
  simp [ir172,h1]
  intro n10 b10 f10
  simp [make_of f10 b10]
  intro n12 b12 f12
  have o1:=Own.start (base:=base) (H:=H) |>.new f10 b10 (s:=.arr 77 [.int .i64 0,.int .i64 0,.nils,.nils]) |>.new f12 b12 (s:=.arr 77 [.int .i64 0,.int .i64 0,.nils,.nils])
  obtain ⟨K2,g2,o2⟩:=o1.putAll 0 (b:=n12) (n:=4) (ds:=[encN t,.int .i64 0,.nils,.nils]) rfl rfl rfl rfl (rt:=none) rfl
  simp [make_of f12 b12,g2]
  intro n13 b13 f13
  have o3:=o2.new f13 b13 (s:=.mp (numEs enc [] 0))
  obtain ⟨K3,g3,o4⟩:=o3.mset 0 (ks:=[]) rfl he hk (k:=s) (by simp)
  have g3' : (K2.set n13 (.mp [])).msetv base 1 (.mp n13) (enc s) (.int .i64 0) = some K3:=g3
  simp [make_of f13 b13,g3',h1,h2]
  intro n14 b14 f14
  have o5:=o4.new f14 b14 (s:=.arr 9 [enc s])
  simp [make_of f14 b14,h1,h2]
  have pre : ∀ i,i≤lim→metL (succs (wd t) nx) s i <+: KS:=fun i h => by rw [hKS]; exact met_pre h
  have hmP : ∀ i,∀ k∈metL (succs (wd t) nx) s i,P k:=met_all hP0 fun k hk l hl => by
    simp only [succs,List.mem_map,List.mem_range] at hl
    obtain ⟨c,hc,rfl⟩:=hl
    exact hPn k hk c hc
  obtain ⟨I,hI⟩ : ∃ I : Nat→Env→BH→Prop,I = (fun i e K => e 15 = encN i∧∃ v3 u w b3 bo wo vs fr,e 14 = v3∧i≤(metL (succs (wd t) nx) s i).length∧(lim = 0∨(metL (succs (wd t) nx) s i).length≤lim) ∧
      Own base H K ([(wo,.arr 80 vs),(bo,.arr 4 (((KS.take i).map a).map encB)),(b3,.arr 9 ((metL (succs (wd t) nx) s i).map enc)),(some n13,.mp (numEs enc (metL (succs (wd t) nx) s i) 0)),
        (some n12,.arr 77 [encN t,.int .i64 0,u,w]),(some n10,.arr 77 [.int .i64 0,.int .i64 0,.nils,.nils])]++fr) ∧
      Vec b3 v3 (metL (succs (wd t) nx) s i).length∧Vec bo u i∧Vec wo w i∧vs.length = i∧RowsOf 3 vs fr (((KS.take i).map fun k => rowU KS nx k (wd t)).map (·.map encN))):=⟨_,rfl⟩
  refine wpC_countK lim [(0,encN t),(2,encN lim),(3,.fn fa ca),(4,.fn fn cn),(10,.ptr n10 0),(12,.ptr n12 0),(13,.mp n13)] I (i0:=0) ?_ ?_ ?_ (Nat.zero_le _) ?_
  · rfl
  · simp
  · rw [hI]
    refine ⟨rfl,.sl n14 0 1,.nils,.nils,some n14,none,none,[],[],rfl,Nat.zero_le _,?_,(o5.nil (.arr 4 [])).nil (.arr 80 []),rfl,Vec.none,Vec.none,rfl,trivial⟩
    simp [metL]; omega
  rintro i e K hi ⟨e0,e2,e3,e4,e10,e12,e13,-⟩ hh
  rw [hI] at hh
  obtain ⟨e15,v3,u,w,b3,bo,wo,vs,fr,e14,hil,hlim,o,hv3,hu,hw',hvs,hrows⟩:=hh
  simp only [] at e0 e2 e3 e4 e10 e12 e13
  by_cases hlt : i < (metL (succs (wd t) nx) s i).length
  · -- a further row
    have hiN : i < lim:=by omega
    obtain ⟨k,hkk⟩ : ∃ k,(metL (succs (wd t) nx) s i)[i]? = some k:=⟨_,List.getElem?_eq_getElem hlt⟩
    have hkU : P k:=hmP i k (List.mem_of_getElem? hkk)
    have hKSi : KS[i]? = some k:=by
      obtain ⟨r,hr⟩:=pre i (by omega)
      rw [← hr,List.getElem?_append_left hlt]
      exact hkk
    have hiKS : i < KS.length:=(List.getElem?_eq_some_iff.1 hKSi).1
    have hnext : metL (succs (wd t) nx) s (i + 1) = lsU (metL (succs (wd t) nx) s i) nx k (wd t):=by rw [metL,hkk]; rfl
    have hpre : ∀ c,c≤wd t→lsU (metL (succs (wd t) nx) s i) nx k c <+: KS:=fun c hc => (lsU_pre hc).trans (by rw [← hnext]; exact pre (i + 1) (by omega))
    have hrd:=(o.rd 2 rfl (v:=v3) (by simpa using hv3)).at hlt (rt:=none) rfl
    have hk' : (metL (succs (wd t) nx) s i)[i] = k:=by
      have:=List.getElem?_eq_getElem hlt
      rw [hkk] at this
      simpa using this.symm
    rw [hk'] at hrd
    have wi:=wS (n:=i) (by omega)
    simp [e0,e2,e3,e4,e10,e12,e13,e14,e15,hv3.isSl,hv3.len,hlt,hrd]
    obtain ⟨J,hJ⟩ : ∃ J : Nat→Env→BH→Prop,J = (fun c e K => e 18 = encN c∧∃ v3 v17 b3 b17,e 14 = v3∧e 17 = v17∧(lim = 0∨(lsU (metL (succs (wd t) nx) s i) nx k c).length≤lim) ∧
        Own base H K ([(b17,.arr 3 ((rowU KS nx k c).map encN)),(wo,.arr 80 vs),(bo,.arr 4 (((KS.take i).map a).map encB)),(b3,.arr 9 ((lsU (metL (succs (wd t) nx) s i) nx k c).map enc)),(some n13,.mp (numEs enc (lsU (metL (succs (wd t) nx) s i) nx k c) 0)),
          (some n12,.arr 77 [encN t,.int .i64 0,u,w]),(some n10,.arr 77 [.int .i64 0,.int .i64 0,.nils,.nils])]++fr) ∧
        Vec b3 v3 (lsU (metL (succs (wd t) nx) s i) nx k c).length∧Vec b17 v17 c):=⟨_,rfl⟩
    refine wpC_countK (wd t) [(0,encN t),(2,encN lim),(3,.fn fa ca),(4,.fn fn cn),(10,.ptr n10 0),(12,.ptr n12 0),(13,.mp n13),(15,encN i),(16,enc k)] J (i0:=0) ?_ ?_ ?_ (Nat.zero_le _) ?_
    · rfl
    · simp [e0,e2,e3,e4,e10,e12,e13,e15]
    · rw [hJ]
      exact ⟨by simp,v3,.nils,b3,none,by simp [e14],by simp,hlim,o.nil _,hv3,Vec.none⟩
    clear e0 e2 e3 e4 e10 e12 e13 e14 e15 o hv3 hrd
    rintro c e K hc ⟨e0,e2,e3,e4,e10,e12,e13,e15,e16,-⟩ hh
    rw [hJ] at hh
    obtain ⟨e18,v3,v17,b3,b17,e14,e17,hlim,o,hv3,hv17⟩:=hh
    simp only [] at e0 e2 e3 e4 e10 e12 e13 e15 e16
    simp [e0,e18]
    refine callP (i_widthOf t K (by omega)) ?_
    by_cases hcw : c < wd t
    · simp [hcw,e4,e16,e18]
      refine (hn K o.keeps k hkU c hcw).step fun v K1 k1 hv => ?_
      subst hv
      have o1:=o.call k1
      obtain ⟨ls,hls⟩ : ∃ ls,ls = lsU (metL (succs (wd t) nx) s i) nx k c:=⟨_,rfl⟩
      have hlsp:=hpre c hc
      have hlsp1:=hpre (c + 1) hcw
      have hsu : lsU (metL (succs (wd t) nx) s i) nx k (c + 1) = addK ls (nx k c):=by rw [lsU_succ,← hls]
      rw [← hls] at o1 hv3 hlim hlsp
      rw [hsu] at hlsp1
      have hll:=hlsp.length_le
      have hlk:=o1.look 4 (ks:=ls) rfl he hk (nx k c)
      have hlk' : K1.mlook 1 true (.int .i64 0) (.mp n13) (enc (nx k c)) = some (.tup [if nx k c∈ls then encN (pos ls (nx k c)) else .int .i64 0,.bool (decide (nx k c∈ls))]):=hlk
      simp [e13,hlk']
      have wc:=wS (n:=c) (by omega)
      by_cases hm : nx k c∈ls
      · have hpos : pos ls (nx k c) = pos KS (nx k c):=(idx_pre hlsp hm).symm
        have hadd : addK ls (nx k c) = ls:=by unfold addK; rw [if_pos hm]
        simp [hm,hpos,e17]
        intro n1 b1 f1
        simp [make_of f1 b1]
        intro n2 b2 f2
        obtain ⟨v',K',b',q1,q2,q3⟩:=o1.push 0 rfl (by simpa [rowU_len] using hv17) (x:=encN (pos KS (nx k c))) (bytes:=8) rfl (by simp [rowU_len]; omega) (by simp [rowU_len]; omega) f1 b1 f2 b2
        simp [q1,e18,wc,hcw]
        rw [hJ]
        simp only [hsu,hadd]
        exact ⟨by simp,v3,v',b3,some b',by simp [e14],by simp,hlim,by simpa [rowU_succ] using q2,hv3,by simpa [rowU_len] using q3⟩
      · have hpos : ls.length = pos KS (nx k c):=by rw [← idx_new hm]; exact (idx_pre hlsp1 (mem_addK.2 (.inr rfl))).symm
        have hadd : addK ls (nx k c) = ls++[nx k c]:=by unfold addK; rw [if_neg hm]
        rw [hadd] at hlsp1
        have hl1:=hlsp1.length_le
        simp at hl1
        simp [hm,e14,hv3.isSl,hv3.len,e13]
        obtain ⟨K2,q1,o2⟩:=o1.mset 4 (ks:=ls) rfl he hk hm
        have q1' : K1.msetv base 1 (.mp n13) (enc (nx k c)) (.int .i64 (ls.length : Nat)) = some K2:=q1
        simp [q1',h1,h2]
        intro n1 b1 f1
        simp [make_of f1 b1]
        intro n2 b2 f2
        obtain ⟨v',K',b',q1,o3,q3⟩:=o2.push 3 rfl (by simpa using hv3) (x:=enc (nx k c)) (bytes:=16) (h1 _) (by simp; omega) (by simp; omega) f1 b1 f2 b2
        have hv' : v' = .sl b' 0 (ls.length + 1):=by simpa [Vec] using q3
        subst hv'
        simp [q1,e2,e14]
        have o3' : Own base H K' ([(b17,.arr 3 ((rowU KS nx k c).map encN)),(wo,.arr 80 vs),(bo,.arr 4 (((KS.take i).map a).map encB)),(some b',.arr 9 ((ls++[nx k c]).map enc)),(some n13,.mp (numEs enc (ls++[nx k c]) 0)),
            (some n12,.arr 77 [encN t,.int .i64 0,u,w]),(some n10,.arr 77 [.int .i64 0,.int .i64 0,.nils,.nils])]++fr):=by simpa using o3
        by_cases hov : lim < ls.length + 1
        · -- too many
          obtain ⟨K9,q9,o9⟩:=o3'.putAll 6 (b:=n10) (n:=4) (ds:=[.int .i64 0,.int .i64 0,.nils,.nils]) rfl rfl rfl rfl (rt:=none) rfl
          have hov' : (lim : Int) < (ls.length : Int) + 1:=by omega
          have r9:=rd_all (o9.at 6 rfl) (n:=4) (rt:=none) rfl rfl
          simp [hl0,hov',e2,e10,q9,r9]
          refine ⟨o9.keeps,?_⟩
          unfold GrowR
          rw [if_pos ⟨hl0,by simp [autOf]; omega⟩]
          rfl
        · have hov' : ¬ (lim : Int) < (ls.length : Int) + 1:=by omega
          simp [hl0,hov',e2,e17]
          intro n3 b3' f3
          simp [make_of f3 b3']
          intro n4 b4 f4
          obtain ⟨v'',K'',b'',p1,p2,p3⟩:=o3'.push 0 rfl (by simpa [rowU_len] using hv17) (x:=encN ls.length) (bytes:=8) rfl (by simp [rowU_len]; omega) (by simp [rowU_len]; omega) f3 b3' f4 b4
          simp [p1,e18,wc,hcw]
          rw [hJ]
          simp only [hsu,hadd]
          exact ⟨by simp,.sl b' 0 (ls.length + 1),v'',some b',some b'',by simp,by simp,.inr (by simp; omega),by rw [rowU_succ,← hpos]; simpa using p2,by simpa using q3,by simpa [rowU_len] using p3⟩
    · have : c = wd t:=by omega
      subst this
      rw [← hnext] at o hv3 hlim
      have u1:=rd_ptr (o.at 5 rfl) (rt:=some 77) (j:=2) (c:=u) rfl rfl
      simp [e12,e3,e16,u1]
      refine (ha K o.keeps k hkU).step fun v K1 k1 hv => ?_
      subst hv
      have o1:=o.call k1
      simp
      intro n1 b1 f1
      simp [make_of f1 b1]
      intro n2 b2 f2
      have hti : (KS.take i).length = i:=by simp; omega
      obtain ⟨v',K2,b',q1,o2,q3⟩:=o1.push 2 rfl (v:=u) (by simp only [List.length_map,hti]; exact hu) (x:=encB (a k)) (bytes:=1) rfl (by simp; omega) (by simp; omega) f1 b1 f2 b2
      obtain ⟨K3,q2,o3⟩:=o2.put 5 rfl (j:=2) (u:=v') (by simp) q3.one (rt:=none) rfl
      simp [q1,q2,e12]
      have u2:=rd_ptr (o3.at 5 rfl) (rt:=none) (j:=3) (c:=w) rfl rfl
      simp [u2,e17]
      have h17:=hv17.one
      simp [h17,cells_one h17]
      intro n3 b3' f3
      simp [make_of f3 b3']
      intro n4 b4 f4
      obtain ⟨w',K4,c',p1,o4,p3⟩:=o3.push 1 rfl (v:=w) (by rw [hvs]; exact hw') (x:=v17) (bytes:=24) h17 (by omega) (by omega) f3 b3' f4 b4
      obtain ⟨K5,p2,o5⟩:=o4.put 5 rfl (j:=3) (u:=w') (by simp) p3.one (rt:=none) rfl
      simp [p1,p2,e12,e15,wi,hiN]
      rw [hI]
      have hta : (KS.take (i + 1)).map a = (KS.take i).map a++[a k]:=by rw [List.take_add_one,hKSi]; simp
      have htr : ((KS.take (i + 1)).map fun k => rowU KS nx k (wd t)).map (·.map encN) = ((KS.take i).map fun k => rowU KS nx k (wd t)).map (·.map encN)++[(rowU KS nx k (wd t)).map encN]:=by rw [List.take_add_one,hKSi]; simp
      have hin : i + 1≤(metL (succs (wd t) nx) s (i + 1)).length:=by
        have:=(met_pre1 (sx:=succs (wd t) nx) (s:=s) i).length_le
        omega
      refine ⟨by simp,v3,v',w',b3,some b',some c',vs++[v17],fr++[(b17,.arr 3 ((rowU KS nx k (wd t)).map encN))],by simp [e14],hin,hlim,?_,hv3,?_,?_,by simp [hvs],?_⟩
      · refine Own.last (F:=[(some c',.arr 80 (vs++[v17])),(some b',.arr 4 (((KS.take (i + 1)).map a).map encB)),(b3,.arr 9 ((metL (succs (wd t) nx) s (i + 1)).map enc)),(some n13,.mp (numEs enc (metL (succs (wd t) nx) s (i + 1)) 0)),
          (some n12,.arr 77 [encN t,.int .i64 0,v',w']),(some n10,.arr 77 [.int .i64 0,.int .i64 0,.nils,.nils])]) ?_
        rw [hta]
        simpa using o5
      · simp only [List.length_map,hti] at q3
        exact q3
      · simpa [hvs] using p3
      · rw [htr]
        exact hrows.snoc (by simpa [rowU_len] using hv17)
  · -- all rows are made
    have hie : i = (metL (succs (wd t) nx) s i).length:=by omega
    have hdi : Done (wd t) nx s i:=by unfold Done DoneL; omega
    have hKi : metL (succs (wd t) nx) s i = KS:=by
      rw [hKS]
      exact (DoneL.eq hdi (by omega)).symm
    rw [hKi] at hie hlim o
    have htk : KS.take i = KS:=by rw [hie,List.take_length]
    rw [htk] at o hrows
    have r1:=rd_all (o.at 4 rfl) (n:=4) (rt:=none) rfl rfl
    obtain ⟨K9,q9,o9⟩:=o.putAll 5 (b:=n10) (n:=4) (ds:=[encN t,.int .i64 0,u,w]) rfl rfl rfl (by simp [hu.one,hw'.one]) (rt:=none) rfl
    have r9:=rd_all (o9.at 5 rfl) (n:=4) (rt:=none) rfl rfl
    have hlt' : ¬ i < (metL (succs (wd t) nx) s i).length:=hlt
    simp [e0,e2,e3,e4,e10,e12,e13,e14,e15,hv3.isSl,hv3.len,hlt',r1,q9,r9]
    refine ⟨o9.keeps,?_⟩
    unfold GrowR
    rw [if_neg (by simp [autOf]; omega)]
    refine ⟨_,rfl,u,w,bo,wo,vs,fr,rfl,?_,by simpa [autOf,← hie] using hu,by rw [hvs]; exact hw',by simpa [autOf,rowU] using hrows⟩
    have o10 : Own base H K9 ((wo,.arr 80 vs)::(bo,.arr 4 ((KS.map a).map encB))::fr):=o9.sub (.cons_cons _ (.cons_cons _ (.cons _ (.cons _ (.cons _ (.cons _ (List.Sublist.refl _)))))))
    exact o10.perm (List.Perm.swap _ _ _)

theorem autOf_done {κ : Type} [DecidableEq κ] {w : Nat} {nx : κ→Nat→κ} {s : κ} {a : κ→Bool} {n : Nat} (hd : Done w nx s n) : (autOf w nx a (metL (succs w nx) s n)).Ok w ∧
    ∀ cs,In w cs→(autOf w nx a (metL (succs w nx) s n)).lang 0 cs = langK nx a s cs:=by
  refine ⟨autOf_ok (List.length_pos_of_mem (met_mem_start _)) fun k hk c hc => Done.closed hd hk hc,fun cs hcs => ?_⟩
  rw [← autOf_lang (a:=a) (fun k hk c hc => Done.closed hd hk hc) (met_mem_start (sx:=succs w nx) (s:=s) n) hcs]
  obtain ⟨r,hr⟩:=met_start (sx:=succs w nx) (s:=s) n
  congr 1
  rw [hr]
  simp [pos]
def withC (t tape c d : Nat) : Nat:=colD ((digs t c).insertIdx tape d)
theorem ins_len {t tape c d : Nat} (h : tape≤t) : ((digs t c).insertIdx tape d).length = t + 1:=by
  rw [List.length_insertIdx,digs_len,if_pos h]
theorem ins_3 {t tape c d : Nat} (h : tape≤t) (hd : d < 3) : Dig3 ((digs t c).insertIdx tape d):=fun x hx => by
  rcases (List.mem_insertIdx (by rw [digs_len]; exact h)).1 hx with h1 | h1
  · omega
  · exact digs_3 t c x h1
theorem withC_wd {t tape c d : Nat} (h : tape≤t) (hd : d < 3) (hs : d < 2∨c < wd t) : withC t tape c d < wd (t + 1):=by
  have h1:=colD_wd (ins_3 (c:=c) h hd) (by
    rcases hs with hs | hs
    · exact ⟨d,(List.mem_insertIdx (by rw [digs_len]; exact h)).2 (.inl rfl),hs⟩
    · obtain ⟨k,hk,h2⟩:=wd_all hs
      have h3:=dg_lt c k
      exact ⟨dg c k,(List.mem_insertIdx (by rw [digs_len]; exact h)).2 (.inr (List.mem_map.2 ⟨k,List.mem_range.2 hk,rfl⟩)),by omega⟩)
  rw [ins_len h] at h1
  exact h1
def startB (n s : Nat) : List Bool:=(List.range n).map fun q => decide (q = s)
def nxB (A : Aut) (t tape : Nat) (S : List Bool) (c : Nat) : List Bool:=(List.range A.acc.length).map fun p => (List.range A.acc.length).any fun q => S.getD q false && (List.range 3).any fun d => decide (A.to q (withC t tape c d) = p)
noncomputable def endQ (A : Aut) (t tape q : Nat) : Bool:=by
  classical
  exact decide (∃ ds : List Nat,(∀ d∈ds,d < 2)∧A.lang q (ds.map (withC t tape (wd t))) = true)
theorem endQ_iff {A : Aut} {t tape q : Nat} : endQ A t tape q = true↔∃ ds : List Nat,(∀ d∈ds,d < 2)∧A.lang q (ds.map (withC t tape (wd t))) = true:=by
  classical
  unfold endQ
  rw [decide_eq_true_iff]
theorem endQ_acc {A : Aut} {t tape q : Nat} (h : A.acc.getD q false = true) : endQ A t tape q = true:=endQ_iff.2 ⟨[],by simp,h⟩
theorem endQ_step {A : Aut} {t tape q d : Nat} (hd : d < 2) (h : endQ A t tape (A.to q (withC t tape (wd t) d)) = true) : endQ A t tape q = true:=by
  obtain ⟨ds,h1,h2⟩:=endQ_iff.1 h
  refine endQ_iff.2 ⟨d::ds,fun x hx => ?_,h2⟩
  rcases List.mem_cons.1 hx with rfl | hx
  · exact hd
  · exact h1 x hx
theorem endQ_closed {A : Aut} {t tape : Nat} {P : Nat→Prop} (hacc : ∀ q,P q→A.acc.getD q false = false) (hst : ∀ q,P q→∀ d,d < 2→P (A.to q (withC t tape (wd t) d))) {q : Nat} (hq : P q) : endQ A t tape q = false:=by
  cases he : endQ A t tape q with
  | false => rfl
  | true =>
    obtain ⟨ds,h1,h2⟩:=endQ_iff.1 he
    have key : ∀ (ds : List Nat) (q : Nat),P q→(∀ d∈ds,d < 2)→A.lang q (ds.map (withC t tape (wd t))) = false:=by
      intro ds
      induction ds with
      | nil => intro q hq _; exact hacc q hq
      | cons d ds ih => intro q hq hd; exact ih _ (hst q hq d (hd d List.mem_cons_self)) fun x hx => hd x (List.mem_cons_of_mem _ hx)
    rw [key ds q hq h1] at h2
    cases h2
noncomputable def acB (A : Aut) (t tape : Nat) (S : List Bool) : Bool:=(List.range A.acc.length).any fun q => S.getD q false && endQ A t tape q
theorem nxB_len (A : Aut) (t tape : Nat) (S : List Bool) (c : Nat) : (nxB A t tape S c).length = A.acc.length:=by simp [nxB]
theorem startB_len (n s : Nat) : (startB n s).length = n:=by simp [startB]
noncomputable def setA (l t tape : Nat) (A : Aut) : Aut:=autOf (wd t) (nxB A t tape) (acB A t tape) (metL (succs (wd t) (nxB A t tape)) (startB A.acc.length 0) l)
theorem setA_len (l t tape : Nat) (A : Aut) : (setA l t tape A).acc.length = (metL (succs (wd t) (nxB A t tape)) (startB A.acc.length 0) l).length:=by simp [setA,autOf]
theorem setA_ok {l t tape : Nat} {A : Aut} (h : (setA l t tape A).acc.length≤l) : (setA l t tape A).Ok (wd t)∧TA t ((setA l t tape A).lang 0) = TA t (langK (nxB A t tape) (acB A t tape) (startB A.acc.length 0)):=by
  have hd : Done (wd t) (nxB A t tape) (startB A.acc.length 0) l:=by
    unfold Done DoneL
    rw [← setA_len]
    exact h
  obtain ⟨h1,h2⟩:=autOf_done (a:=acB A t tape) hd
  exact ⟨h1,TA_congr fun cs hc _ => h2 cs hc⟩
noncomputable def someN (l t tape : Nat) (A : Aut) : Option Aut × Nat:=if l < (setA l t tape A).acc.length then (none,3) else told (TA t (langK (nxB A t tape) (acB A t tape) (startB A.acc.length 0)))
theorem insertIdx_eq {α : Type} : ∀ (xs : List α) (i : Nat) (x : α),i≤xs.length→xs.insertIdx i x = xs.take i++x::xs.drop i
  | xs,0,x,_ => by simp
  | [],i + 1,x,h => by simp at h
  | y::xs,i + 1,x,h => by simp [List.insertIdx_succ_cons,insertIdx_eq xs i x (by simpa using h)]
theorem i_cloneI (cs : List BV) (h1 : ∀ c∈cs,c.one = true) (u : BV) (H : BH) (h : Rd H 3 u cs) (hp : 0 < cs.length) (hn : cs.length≤1000000) :
    FnDoes (gam base) 214 [u] H fun v K => ∃ b,v = .sl b 0 cs.length∧Own base H K [(some b,.arr 3 cs)]:=by
  refine FnDoes.of (fn:=ir214) rfl ?_
  obtain ⟨b,o,rfl⟩:=h.slice hp
  simp [ir214]
  intro n1 b1 f1
  simp [make_of f1 b1]
  intro n2 b2 f2
  have o1:=Own.start (base:=base) (H:=H) |>.new f1 b1 (s:=.arr 3 [])
  obtain ⟨v',K',bo,g1,g2,g3⟩:=o1.app 0 rfl (bo:=some n1) (cs:=[]) (v:=.sl n1 0 0) rfl (vy:=.sl b o cs.length) (new:=cs) (bytes:=8) (Rd.cells (h.keeps o1.keeps) hp) h1 (by simp; omega) (by simp; omega) f2 b2
  simp [g1]
  cases bo with
  | none =>
    have h0:=g3.2
    simp at h0
    rw [h0] at hp
    simp at hp
  | some b' => exact ⟨g2.keeps,b',by simpa [Vec] using g3,by simpa using g2⟩
theorem i_insert {H K : BH} {L : List Sl} (o : Own base H K L) (i j p : Nat) {b vb : Nat} {zs : List Int} {x : Int} (h : L[i]? = some (some b,.arr 3 (zs.map (BV.int .i64)))) (hv : L[j]? = some (some vb,.arr 3 [.int .i64 x])) (hij : i≠j) (h0 : 0 < zs.length) (hp : p≤zs.length) (hn : zs.length≤1000000) :
    ∃ nb K',Runs (gam base) 213 [.sl b 0 zs.length,encN p,.sl vb 0 1] K (.sl nb 0 (zs.length + 1)) K'∧Own base H K' (L.set i (some nb,.arr 3 ((zs.take p++x::zs.drop p).map (BV.int .i64)))):=by
  obtain ⟨nb,hb,hf⟩:=K.exists_fresh base
  obtain ⟨h1,h2,h3,h4⟩:=o.row _ (List.mem_of_getElem? h) b rfl
  obtain ⟨v1,v2,v3,v4⟩:=o.row _ (List.mem_of_getElem? hv) vb rfl
  have hne : b≠vb:=o.ne h hv hij
  have hnb : nb≠b:=by
    rintro rfl
    simp only [h1] at hf
    cases hf
  have hfH : H.row nb = .fresh:=o.keeps.fresh hf
  refine ⟨nb,_,⟨1,.inr (.inr (.inr ⟨rfl,b,vb,nb,p,zs,x,h2,v2,hb,hf,hne,h0,hp,hn,h1,v1,rfl,rfl,rfl⟩))⟩,?_⟩
  refine o.move h ((o.keeps.set hfH _).set h3 _) (fun c hc hcf => ?_) fun b' hb' => ?_
  · have c1 : c≠b:=fun e => hc (by rw [e])
    have c2 : c≠nb:=fun e => hcf (by rw [e]; exact hf)
    rw [BH.row_set_ne _ _ c1,BH.row_set_ne _ _ c2]
  · cases hb'
    exact ⟨by rw [BH.row_set_ne _ _ hnb,BH.row_set_eq],hb,hfH,by simp,.inr hf⟩
theorem i_with (ds : List Nat) (tape d : Nat) (v : BV) (H : BH) (h : Rd H 3 v (ds.map encN)) (h0 : 0 < ds.length) (hl : ds.length≤20) (h3 : Dig3 ds) (ht : tape≤ds.length) (hd : d < 3) :
    FnDoes (gam base) 170 [v,encN tape,encN d] H fun u K => u = encN (colD (ds.insertIdx tape d)):=by
  refine FnDoes.of (fn:=ir170) rfl ?_
  simp [ir170]
  refine (i_cloneI (base:=base) (ds.map encN) (fun c hc => by obtain ⟨q,_,rfl⟩:=List.mem_map.1 hc; rfl) v H h (by simpa using h0) (by simp; omega)).step fun r K1 k1 hr => ?_
  obtain ⟨b,rfl,o1⟩:=hr
  simp
  intro n11 b11 f11
  have o2:=o1.new f11 b11 (s:=.arr 3 [.int .i64 (d : Int)])
  simp [make_of f11 b11]
  have hz : (ds.map fun (q : Nat) => (q : Int)).map (BV.int .i64) = ds.map encN:=by rw [List.map_map]; rfl
  have o2 : Own base H (K1.set n11 (.arr 3 [.int .i64 (d : Int)])) [(some n11,.arr 3 [.int .i64 (d : Int)]),(some b,.arr 3 ((ds.map fun (q : Nat) => (q : Int)).map (BV.int .i64)))]:=by rw [hz]; exact o2
  obtain ⟨nb,K',hrun,o3⟩:=i_insert (base:=base) o2 1 0 tape (b:=b) (vb:=n11) rfl rfl (by decide) (by simpa using h0) (by simpa using ht) (by simp; omega)
  rw [List.length_map] at hrun
  refine ⟨_,_,hrun,BH.KeepsTys.nil _ _,?_⟩
  have e : ((ds.map fun (q : Nat) => (q : Int)).take tape++(d : Int)::(ds.map fun (q : Nat) => (q : Int)).drop tape).map (BV.int .i64) = (ds.insertIdx tape d).map encN:=by
    rw [insertIdx_eq _ _ _ ht,← List.map_take,← List.map_drop]
    simp [List.map_map,Function.comp_def]
  rw [e] at o3
  have hil : (ds.insertIdx tape d).length = ds.length + 1:=by rw [List.length_insertIdx,if_pos ht]
  have hrd : Rd K' 3 (.sl nb 0 (ds.length + 1)) ((ds.insertIdx tape d).map encN):=o3.rd 1 rfl (by rw [List.length_map,hil]; rfl)
  simp
  refine (i_columnOf (base:=base) (ds.insertIdx tape d) _ K' hrd (fun x hx => ?_) (by omega)).step fun u K4 k4 hu => ?_
  · rcases (List.mem_insertIdx ht).1 hx with h1 | h1
    · omega
    · exact h3 x h1
  subst hu
  simp
  exact o3.keeps.trans k4
theorem i_padded (n : Nat) (H : BH) (hn : n≤30) : FnDoes (gam base) 171 [encN n] H fun v K => Rd K 3 v ((List.replicate n 2).map encN):=by
  refine FnDoes.of (fn:=ir171) rfl ?_
  simp [ir171]
  obtain ⟨I,hI⟩ : ∃ I : Nat→Env→BH→Prop,I = (fun i e K => e 0 = encN (n - i)∧∃ v bo,e 3 = v∧Own base H K [(bo,.arr 3 ((List.replicate i 2).map encN))]∧Vec bo v i):=⟨_,rfl⟩
  refine wpC_countK n [] I (i0:=0) rfl ?_ ?_ (Nat.zero_le _) ?_
  · simp
  · rw [hI]
    exact ⟨by simp,.nils,none,by simp,Own.start.nil _,Vec.none⟩
  rintro i e K hi - hh
  rw [hI] at hh
  obtain ⟨e0,v,bo,e3,o,hv⟩:=hh
  by_cases hlt : i < n
  · obtain ⟨r,hr⟩ : ∃ r,r = n - i:=⟨_,rfl⟩
    rw [← hr] at e0
    have hr0 : 0 < r:=by omega
    simp [e0,hr0,e3]
    intro n1 b1 f1
    simp [make_of f1 b1]
    intro n2 b2 f2
    have hvl : Vec bo v ((List.replicate i 2).map encN).length:=by simpa using hv
    obtain ⟨v',K',b',p1,p2,p3⟩:=o.push 0 rfl hvl (x:=.int .i64 2) (bytes:=8) rfl (by simp; omega) (by simp; omega) f1 b1 f2 b2
    have wd' : IntKind.i64.wrap ((r : Int) - 1) = ((n - (i + 1) : Nat) : Int):=by rw [w64 (by omega) (by omega)]; omega
    simp [p1,e0,wd',hlt]
    rw [hI]
    refine ⟨by simp,v',some b',by simp,?_,by simpa using p3⟩
    rw [List.replicate_succ',List.map_append]
    exact p2
  · have hin : i = n:=by omega
    subst hin
    simp [e0,e3]
    exact ⟨o.keeps,by simpa using o.rd 0 rfl (by simpa using hv)⟩
theorem strL_inj2 {xs ys : List Nat} (hx : ∀ x∈xs,x < 256) (hy : ∀ y∈ys,y < 256) (h : strL xs = strL ys) : xs = ys:=by
  have h1 : (xs.map UInt8.ofNat).toArray = (ys.map UInt8.ofNat).toArray:=congrArg ByteArray.data h
  have h2 : xs.map UInt8.ofNat = ys.map UInt8.ofNat:=by simpa using h1
  have key : ∀ zs : List Nat,(∀ z∈zs,z < 256)→(zs.map UInt8.ofNat).map UInt8.toNat = zs:=fun zs hz => by
    rw [List.map_map]
    conv => rhs; rw [← List.map_id zs]
    exact List.map_congr_left fun z hz' => by
      have:=hz z hz'
      simp [Function.comp,UInt8.toNat_ofNat']
      omega
  rw [← key xs hx,h2,key ys hy]
def bitN (b : Bool) : Nat:=if b = true then 1 else 0
def bitsL (S : List Bool) : List Nat:=S.map bitN
def bitsI (S : List Bool) (i : Nat) : List Nat:=(S.take i).map bitN++List.replicate (S.length - i) 0
theorem bitsL_len (S : List Bool) : (bitsL S).length = S.length:=by simp [bitsL]
theorem bitsI_len {S : List Bool} {i : Nat} (h : i≤S.length) : (bitsI S i).length = S.length:=by simp [bitsI]; omega
theorem bitsI_zero (S : List Bool) : bitsI S 0 = List.replicate S.length 0:=by simp [bitsI]
theorem bitsI_all (S : List Bool) : bitsI S S.length = bitsL S:=by simp [bitsI,bitsL]
theorem bitsI_split {S : List Bool} {i : Nat} (h : i < S.length) : bitsI S i = (S.take i).map bitN++0::List.replicate (S.length - (i + 1)) 0:=by
  unfold bitsI
  rw [show S.length - i = S.length - (i + 1) + 1 by omega,List.replicate_succ]
theorem bitsI_next {S : List Bool} {i : Nat} (h : i < S.length) : bitsI S (i + 1) = (S.take i).map bitN++bitN S[i]::List.replicate (S.length - (i + 1)) 0:=by
  unfold bitsI
  rw [List.take_add_one,List.getElem?_eq_getElem h,List.map_append,List.append_assoc]
  rfl
theorem bitsI_set {S : List Bool} {i : Nat} (h : i < S.length) (hb : S[i] = true) : (bitsI S i).set i 1 = bitsI S (i + 1):=by
  have hl : ((S.take i).map bitN).length = i:=by simp; omega
  rw [bitsI_split h,bitsI_next h,List.set_append_right _ _ (by omega),hl,Nat.sub_self,hb]
  rfl
theorem bitsI_same {S : List Bool} {i : Nat} (h : i < S.length) (hb : S[i] = false) : bitsI S i = bitsI S (i + 1):=by
  rw [bitsI_split h,bitsI_next h,hb]
  rfl
theorem bits_256 (S : List Bool) : ∀ x∈bitsL S,x < 256:=fun x hx => by
  obtain ⟨b,_,rfl⟩:=List.mem_map.1 hx
  unfold bitN
  split <;> omega
theorem bits_inj {S T : List Bool} (h : strL (bitsL S) = strL (bitsL T)) : S = T:=by
  have h1:=strL_inj2 (bits_256 S) (bits_256 T) h
  have key : ∀ S : List Bool,(bitsL S).map (fun n => decide (n = 1)) = S:=fun S => by
    unfold bitsL
    rw [List.map_map]
    conv => rhs; rw [← List.map_id S]
    exact List.map_congr_left fun b _ => by cases b <;> rfl
  rw [← key S,h1,key T]
theorem bits_get {S : List Bool} {i : Nat} (h : i < S.length) : (strL (bitsL S))[i]? = some (UInt8.ofNat (bitN S[i])):=by
  have hl : i < (strL (bitsL S)).size:=by rw [strL_size,bitsL_len]; exact h
  rw [getElem?_pos (strL (bitsL S)) i hl,str_getE]
  simp [bitsL]
theorem i_setKey (S : List Bool) (v : BV) (H : BH) (h : Rd H 4 v (S.map encB)) (hn : S.length≤1000000) : FnDoes (gam base) 173 [v] H fun u K => u = encW (bitsL S):=by
  refine FnDoes.of (fn:=ir173) rfl ?_
  obtain ⟨n,hnn⟩ : ∃ n,n = S.length:=⟨_,rfl⟩
  have hvl:=h.lenM
  rw [← hnn] at hvl
  have c1 : (n : Int)≤140737488355328:=by omega
  simp [ir173,h.isSl,hvl,c1]
  intro n8 b8 f8
  have o1:=Own.start (base:=base) (H:=H) |>.new f8 b8 (s:=.arr 5 (List.replicate n (.int .u8 0)))
  simp [make_of f8 b8,h.isSl,hvl]
  obtain ⟨I,hI⟩ : ∃ I : Nat→Env→BH→Prop,I = (fun i e K => e 11 = encN i∧Own base H K [(some n8,.arr 5 ((bitsI S i).map fun (b : Nat) => BV.int .u8 (b : Int)))]):=⟨_,rfl⟩
  refine wpC_countK n [(3,.sl n8 0 n),(9,v),(10,encN n)] I (i0:=0) rfl ?_ ?_ (Nat.zero_le _) ?_
  · simp
  · rw [hI]
    refine ⟨by simp,?_⟩
    rw [bitsI_zero,← hnn]
    simpa using o1
  clear o1
  rintro i e K hi ⟨e3,e9,e10,-⟩ hh
  rw [hI] at hh
  obtain ⟨e11,o⟩:=hh
  simp only [] at e3 e9 e10
  have wi:=wS (n:=i) (by omega)
  by_cases hlt : i < n
  · have hiS : i < S.length:=by omega
    have gi:=(h.keeps o.keeps).at (i:=i) (by simpa using hiS) (rt:=none) rfl
    have gi' : K.rd none none (v.sat i 1) = some (encB S[i]):=by simpa using gi
    by_cases hb : S[i] = true
    · rw [hb] at gi'
      obtain ⟨K5,g5,o5⟩:=o.put 0 (b:=n8) rfl (j:=i) (u:=.int .u8 1) (by rw [List.length_map,bitsI_len (by omega)]; exact hiS) rfl (rt:=none) rfl
      simp [e3,e9,e10,e11,hlt,h.isSl,hvl,gi',g5,wi]
      rw [hI]
      refine ⟨by simp,?_⟩
      have e : ((bitsI S i).map fun (b : Nat) => BV.int .u8 (b : Int)).set i (.int .u8 1) = (bitsI S (i + 1)).map fun (b : Nat) => BV.int .u8 (b : Int):=by
        rw [← bitsI_set hiS hb,List.map_set]
        rfl
      rw [← e]
      exact o5
    · have hb : S[i] = false:=by simpa using hb
      rw [hb] at gi'
      simp [e3,e9,e10,e11,hlt,h.isSl,hvl,gi',wi]
      rw [hI]
      refine ⟨by simp,?_⟩
      rw [← bitsI_same hiS hb]
      exact o
  · have hin : i = n:=by omega
    subst hin
    rw [hnn,bitsI_all] at o
    simp [-op1_b2s,e3,e10,e11]
    rw [u8str (xs:=bitsL S) (v:=.sl n8 0 i) o (by simp [Vec,bitsL_len,hnn]) (by simp [e3])]
    simp
    exact ⟨o.keeps,rfl⟩
theorem i_some1 (E S : List Bool) (hS : S.length = E.length) (n6 : Nat) (w : BV) (H : BH) (h6 : H.row n6 = .arr 22 [w]) (hw : Rd H 4 w (E.map encB)) (hn : E.length≤1000000) :
    Runs (gam base) 174 [encW (bitsL S),.ptr n6 0] H (.bool ((List.range E.length).any fun q => S.getD q false && E.getD q false)) H:=by
  refine runs_of (fn:=ir174) rfl ?_
  obtain ⟨n,hnn⟩ : ∃ n,n = E.length:=⟨_,rfl⟩
  have hwl:=hw.lenM
  rw [← hnn] at hwl
  have r6:=rd_ptr h6 (rt:=none) (j:=0) (c:=w) rfl rfl
  simp [ir174,r6,hw.isSl,hwl]
  obtain ⟨I,hI⟩ : ∃ I : Nat→Env→BH→Prop,I = (fun i e K => e 8 = encN i∧(∀ q,q < i→(S.getD q false && E.getD q false) = false)∧K = H):=⟨_,rfl⟩
  refine wpC_countK n [(0,encW (bitsL S)),(6,w),(7,encN n)] I (i0:=0) rfl ?_ ?_ (Nat.zero_le _) ?_
  · simp
  · rw [hI]
    exact ⟨by simp,fun q hq => by omega,rfl⟩
  rintro i e K hi ⟨e0,e6,e7,-⟩ hh
  rw [hI] at hh
  obtain ⟨e8,hno,rfl⟩:=hh
  simp only [] at e0 e6 e7
  have wi:=wS (n:=i) (by omega)
  by_cases hlt : i < n
  · have hiE : i < E.length:=by omega
    have hiS : i < S.length:=by omega
    have gi:=hw.at (i:=i) (by simpa using hiE) (rt:=none) rfl
    have gi' : K.rd none none (w.sat i 1) = some (encB E[i]):=by simpa using gi
    have gE : E.getD i false = E[i]:=by rw [List.getD_eq_getElem?_getD,List.getElem?_eq_getElem hiE]; rfl
    have gS : S.getD i false = S[i]:=by rw [List.getD_eq_getElem?_getD,List.getElem?_eq_getElem hiS]; rfl
    have gb:=bits_get hiS
    have next : (S[i] && E[i]) = false→∀ q,q < i + 1→(S.getD q false && E.getD q false) = false:=fun h q hq => by
      by_cases hqi : q = i
      · subst hqi
        rw [gE,gS]
        exact h
      · exact hno q (by omega)
    by_cases hE : E[i] = true
    · rw [hE] at gi'
      by_cases hb : S[i] = true
      · have hb1 : (UInt8.ofNat (bitN S[i])).toNat = 1:=by rw [hb]; rfl
        simp [e0,e6,e7,e8,hlt,hw.isSl,hwl,gi',gb,hb1]
        refine ⟨i,by omega,?_,?_⟩
        · rw [← List.getD_eq_getElem?_getD,gS,hb]
        · rw [← List.getD_eq_getElem?_getD,gE,hE]
      · have hb : S[i] = false:=by simpa using hb
        have hb1 : (UInt8.ofNat (bitN S[i])).toNat = 0:=by rw [hb]; rfl
        simp [e0,e6,e7,e8,hlt,hw.isSl,hwl,gi',gb,hb1,wi]
        rw [hI]
        exact ⟨by simp,next (by rw [hb]; rfl),rfl⟩
    · have hE : E[i] = false:=by simpa using hE
      rw [hE] at gi'
      simp [e0,e6,e7,e8,hlt,hw.isSl,hwl,gi',wi]
      rw [hI]
      exact ⟨by simp,next (by rw [hE,Bool.and_false]),rfl⟩
  · have hin : i = n:=by omega
    subst hin
    have hany : ((List.range E.length).any fun q => S.getD q false && E.getD q false) = false:=by
      rw [List.any_eq_false]
      intro q hq
      rw [hno q (by have:=List.mem_range.1 hq; omega)]
      simp
    simp only [List.getD_eq_getElem?_getD] at hany
    simp [e7,e8,hany]
def mrk (A : Aut) (t tape : Nat) (S : List Bool) (c d i : Nat) : List Bool:=(List.range A.acc.length).map fun p =>
  ((List.range A.acc.length).any fun q => S.getD q false && (List.range d).any fun d' => decide (A.to q (withC t tape c d') = p)) || (List.range i).any fun q => S.getD q false && decide (A.to q (withC t tape c d) = p)
theorem mrk_len (A : Aut) (t tape : Nat) (S : List Bool) (c d i : Nat) : (mrk A t tape S c d i).length = A.acc.length:=by simp [mrk]
theorem mrk_zero (A : Aut) (t tape : Nat) (S : List Bool) (c : Nat) : mrk A t tape S c 0 0 = List.replicate A.acc.length false:=by
  unfold mrk
  rw [List.eq_replicate_iff]
  refine ⟨by simp,fun b hb => ?_⟩
  obtain ⟨p,_,rfl⟩:=List.mem_map.1 hb
  simp
theorem mrk_next (A : Aut) (t tape : Nat) (S : List Bool) (c d : Nat) : mrk A t tape S c d A.acc.length = mrk A t tape S c (d + 1) 0:=by
  unfold mrk
  refine List.map_congr_left fun p _ => ?_
  rw [Bool.eq_iff_iff]
  simp only [Bool.or_eq_true,List.any_eq_true,Bool.and_eq_true,List.mem_range,decide_eq_true_iff,List.range_zero,List.any_nil,Bool.false_eq_true,or_false]
  constructor
  · rintro (⟨q,hq,h1,d',hd,h2⟩ | ⟨q,hq,h1,h2⟩)
    · exact ⟨q,hq,h1,d',by omega,h2⟩
    · exact ⟨q,hq,h1,d,by omega,h2⟩
  · rintro ⟨q,hq,h1,d',hd,h2⟩
    by_cases h : d' = d
    · subst h
      exact .inr ⟨q,hq,h1,h2⟩
    · exact .inl ⟨q,hq,h1,d',by omega,h2⟩
theorem mrk_all (A : Aut) (t tape : Nat) (S : List Bool) (c : Nat) : mrk A t tape S c 3 0 = nxB A t tape S c:=by
  unfold mrk nxB
  refine List.map_congr_left fun p _ => ?_
  simp
theorem mrk_same {A : Aut} {t tape : Nat} {S : List Bool} {c d i : Nat} (h : S.getD i false = false) : mrk A t tape S c d (i + 1) = mrk A t tape S c d i:=by
  unfold mrk
  refine List.map_congr_left fun p _ => ?_
  rw [List.range_succ (n:=i),List.any_append]
  simp only [List.any_cons,List.any_nil,h,Bool.false_and,Bool.or_false]
theorem mrk_set {A : Aut} {t tape : Nat} {S : List Bool} {c d i : Nat} (h : S.getD i false = true) : (mrk A t tape S c d i).set (A.to i (withC t tape c d)) true = mrk A t tape S c d (i + 1):=by
  apply List.ext_getElem?
  intro p
  by_cases hp : p < A.acc.length
  · rw [List.getElem?_set]
    unfold mrk
    rw [List.getElem?_map,List.getElem?_map,List.getElem?_range hp,List.range_succ (n:=i)]
    simp only [Option.map_some,List.any_append,List.any_cons,List.any_nil,h,Bool.true_and,Bool.or_false]
    by_cases e : A.to i (withC t tape c d) = p
    · rw [if_pos e,if_pos (by rw [e]; simpa using hp)]
      simp [e]
    · rw [if_neg e]
      simp [e]
  · rw [List.getElem?_eq_none (by rw [List.length_set,mrk_len]; omega),List.getElem?_eq_none (by rw [mrk_len]; omega)]
theorem i_some2 (t tape n2 n3 c : Nat) (ht1 : 1≤t) (ht : t + 1≤3) (htape : tape≤t) (A : Aut) (S : List Bool) (u x : BV) (H : BH) (h2 : H.row n2 = .arr 77 [encN (t + 1),encN 0,u,x]) (hu : Rd H 4 u (A.acc.map encB)) (hx : RdR H 80 3 x encN A.nxt)
    (h3 : H.row n3 = .arr 3 [encN tape]) (hok : A.Ok (wd (t + 1))) (hn : A.acc.length≤1000000) (hS : S.length = A.acc.length) (hc : c < wd t) :
    FnDoes (gam base) 175 [encW (bitsL S),encN c,.ptr n2 0,.ptr n3 0] H fun v K => v = encW (bitsL (nxB A t tape S c)):=by
  obtain ⟨R,hR⟩ : ∃ R : BV→BH→Prop,R = fun v K => v = encW (bitsL (nxB A t tape S c)):=⟨_,rfl⟩
  rw [← hR]
  refine FnDoes.of (fn:=ir175) rfl ?_
  obtain ⟨n,hnn⟩ : ∃ n,n = A.acc.length:=⟨_,rfl⟩
  have hul:=hu.lenM
  rw [← hnn] at hul
  have c1 : (n : Int)≤140737488355328:=by omega
  have g0:=rd_ptr h2 (rt:=none) (j:=0) (c:=encN (t + 1)) rfl rfl
  have g2:=rd_ptr h2 (rt:=none) (j:=2) (c:=u) rfl rfl
  have g3:=rd_ptr h2 (rt:=none) (j:=3) (c:=x) rfl rfl
  have p3:=rd_ptr h3 (rt:=none) (j:=0) (c:=encN tape) rfl rfl
  have wt : IntKind.i64.wrap (t : Int) = (t : Int):=wN (by omega)
  have hwd:=wd_3 (t:=t) (by omega)
  simp only [encN] at g0
  simp [ir175,g0,wt]
  refine (i_digitsOf (base:=base) t c H (by omega) (by omega)).step fun v7 K1 k1 hv7 => ?_
  obtain ⟨bo,hd,hfr⟩:=hv7
  have o1:=(Own.start (base:=base) (H:=H)).take k1 hd hfr
  have hdr:=hd.rd
  have g2':=rd_keeps k1 g2
  simp [g2',hu.isSl,hul,c1]
  intro n8 b8 f8
  have o2:=o1.new f8 b8 (s:=.arr 4 (List.replicate n (.bool false)))
  simp [make_of f8 b8]
  have hdv : Vec bo v7 t:=by simpa [digs_len] using hd.vec
  obtain ⟨I,hI⟩ : ∃ I : Nat→Env→BH→Prop,I = (fun d e K => e 9 = encN d∧Own base H K [(some n8,.arr 4 ((mrk A t tape S c d 0).map encB)),(bo,.arr 3 ((digs t c).map encN))]):=⟨_,rfl⟩
  refine wpC_countK 3 [(0,encW (bitsL S)),(2,.ptr n2 0),(3,.ptr n3 0),(7,v7),(8,.sl n8 0 n)] I (i0:=0) rfl ?_ ?_ (Nat.zero_le _) ?_
  · simp
  · rw [hI]
    refine ⟨by simp,?_⟩
    rw [mrk_zero,← hnn]
    simpa using o2
  clear o1 o2
  rintro d e K hdd ⟨e0,e2,e3,e7,e8,-⟩ hh
  rw [hI] at hh
  obtain ⟨e9,o⟩:=hh
  simp only [] at e0 e2 e3 e7 e8
  have wdd:=wS (n:=d) (by omega)
  have hdr' : Rd K 3 v7 ((digs t c).map encN):=o.rd 1 rfl (by simpa [digs_len] using hdv)
  by_cases hd3 : d < 3
  · have hd2 : ((d : Nat) : Int)≤2:=by omega
    have p3':=rd_keeps o.keeps p3
    simp [e0,e2,e3,e7,e8,e9,hd2,p3']
    refine (i_with (base:=base) (digs t c) tape d v7 K hdr' (by rw [digs_len]; omega) (by rw [digs_len]; omega) (digs_3 t c) (by rw [digs_len]; exact htape) hd3).step fun v10 K2 k2 hv10 => ?_
    subst hv10
    have o2:=o.call k2
    obtain ⟨col,hcol⟩ : ∃ col,col = withC t tape c d:=⟨_,rfl⟩
    have hcol' : colD ((digs t c).insertIdx tape d) = col:=hcol.symm
    have hcl : col < wd (t + 1):=by rw [hcol]; exact withC_wd htape hd3 (.inr hc)
    rw [hcol']
    simp [e8]
    obtain ⟨J,hJ⟩ : ∃ J : Nat→Env→BH→Prop,J = (fun q e K => e 31 = encN q∧Own base H K [(some n8,.arr 4 ((mrk A t tape S c d q).map encB)),(bo,.arr 3 ((digs t c).map encN))]):=⟨_,rfl⟩
    refine wpC_countK n [(0,encW (bitsL S)),(2,.ptr n2 0),(3,.ptr n3 0),(7,v7),(8,.sl n8 0 n),(9,encN d),(10,encN col),(30,encN n)] J (i0:=0) rfl ?_ ?_ (Nat.zero_le _) ?_
    · simp [e0,e2,e3,e7,e8,e9]
    · rw [hJ]
      exact ⟨by simp,o2⟩
    clear o o2 e0 e2 e3 e7 e8 e9 hdr'
    rintro q e K hq ⟨e0,e2,e3,e7,e8,e9,e10,e30,-⟩ hh
    rw [hJ] at hh
    obtain ⟨e31,o⟩:=hh
    simp only [] at e0 e2 e3 e7 e8 e9 e10 e30
    have wq:=wS (n:=q) (by omega)
    by_cases hlt : q < n
    · have hqS : q < S.length:=by omega
      have gb:=bits_get hqS
      have gS : S.getD q false = S[q]:=by rw [List.getD_eq_getElem?_getD,List.getElem?_eq_getElem hqS]; rfl
      by_cases hb : S[q] = true
      · have hb1 : (UInt8.ofNat (bitN S[q])).toNat = 1:=by rw [hb]; rfl
        have hqN : q < A.nxt.length:=by rw [hok.len]; omega
        obtain ⟨uw,q1,q2⟩:=hx.at hqN
        have q2:=rd_keeps o.keeps (q2 none rfl)
        have g3':=rd_keeps o.keeps g3
        have hrl : (A.nxt[q]).length = wd (t + 1):=(hok.row _ (List.getElem_mem hqN)).1
        have q1':=q1.keeps o.keeps
        have gc:=q1'.at (i:=col) (by rw [hrl]; exact hcl) (rt:=none) rfl
        have hto : A.nxt[q][col]'(by rw [hrl]; exact hcl) = A.to q col:=to_get hok hqN (by rw [hrl]; exact hcl)
        have gc' : K.rd none none (uw.sat col 1) = some (encN (A.to q col)):=by simpa [hto] using gc
        have htl : A.to q col < n:=by rw [hnn]; exact to_lt hok (by omega) hcl
        have hcw : col < uw.slen:=by rw [q1.lenM,hrl]; exact hcl
        obtain ⟨K5,g5,o5⟩:=o.put 0 (b:=n8) rfl (j:=A.to q col) (u:=.bool true) (by rw [List.length_map,mrk_len]; omega) rfl (rt:=none) rfl
        have hxl : q < x.slen:=by rw [hx.len]; exact hqN
        simp [e0,e2,e8,e10,e30,e31,hlt,gb,hb1,g3',hx.isSl,hxl,q2,q1.isSl,hcw,gc',htl,g5,wq]
        rw [hJ]
        refine ⟨by simp,?_⟩
        have e : ((mrk A t tape S c d q).map encB).set (A.to q col) (.bool true) = (mrk A t tape S c d (q + 1)).map encB:=by
          rw [← mrk_set (by rw [gS]; exact hb),List.map_set,hcol]
        rw [← e]
        exact o5
      · have hb : S[q] = false:=by simpa using hb
        have hb1 : (UInt8.ofNat (bitN S[q])).toNat = 0:=by rw [hb]; rfl
        simp [e0,e30,e31,hlt,gb,hb1,wq]
        rw [hJ]
        refine ⟨by simp,?_⟩
        rw [mrk_same (by rw [gS]; exact hb)]
        exact o
    · have hqn : q = n:=by omega
      subst hqn
      rw [hnn,mrk_next] at o
      simp [e9,e30,e31,wdd,hd3]
      rw [hI]
      exact ⟨by simp,o⟩
  · have hde : d = 3:=by omega
    subst hde
    rw [mrk_all] at o
    simp [e8,e9]
    have hrd : Rd K 4 (.sl n8 0 n) ((nxB A t tape S c).map encB):=o.rd 0 rfl (by rw [List.length_map,nxB_len,hnn]; rfl)
    refine (i_setKey (base:=base) (nxB A t tape S c) _ K hrd (by rw [nxB_len]; exact hn)).step fun v K4 k4 hv => ?_
    subst hv
    simp
    rw [hR]
    exact ⟨o.keeps.trans k4,rfl⟩
structure EndI (A : Aut) (t tape : Nat) (E : List Bool) : Prop where
  len : E.length = A.acc.length
  acc : ∀ q,A.acc.getD q false = true→E.getD q false = true
  ok : ∀ q,E.getD q false = true→endQ A t tape q = true
theorem EndI.start {A : Aut} {t tape : Nat} : EndI A t tape A.acc:=⟨rfl,fun _ h => h,fun _ h => endQ_acc h⟩
theorem EndI.set {A : Aut} {t tape : Nat} {E : List Bool} (h : EndI A t tape E) {q d : Nat} (hq : q < E.length) (hd : d < 2) (he : E.getD (A.to q (withC t tape (wd t) d)) false = true) : EndI A t tape (E.set q true):=by
  refine ⟨by rw [List.length_set]; exact h.len,fun p hp => ?_,fun p hp => ?_⟩
  · rw [List.getD_eq_getElem?_getD,List.getElem?_set]
    split
    · rfl
    · rw [← List.getD_eq_getElem?_getD]
      exact h.acc p hp
  · rw [List.getD_eq_getElem?_getD,List.getElem?_set] at hp
    split at hp
    · rename_i e
      subst e
      exact endQ_step hd (h.ok _ he)
    · rw [← List.getD_eq_getElem?_getD] at hp
      exact h.ok p hp
theorem EndI.done {A : Aut} {t tape : Nat} {E : List Bool} (h : EndI A t tape E) (hok : ∀ q,q < A.acc.length→∀ d,d < 2→A.to q (withC t tape (wd t) d) < A.acc.length)
    (hcl : ∀ q,q < E.length→E.getD q false = false→∀ d,d < 2→E.getD (A.to q (withC t tape (wd t) d)) false = false) {q : Nat} (hq : q < A.acc.length) : E.getD q false = endQ A t tape q:=by
  cases he : E.getD q false with
  | true => exact (h.ok q he).symm
  | false =>
    refine (endQ_closed (P:=fun q => q < A.acc.length∧E.getD q false = false) (fun p hp => ?_) (fun p hp d hd => ?_) ⟨hq,he⟩).symm
    · cases ha : A.acc.getD p false with
      | false => rfl
      | true => rw [h.acc p ha] at hp; exact absurd hp.2 (by simp)
    · exact ⟨hok p hp.1 d hd,hcl p (by rw [h.len]; exact hp.1) hp.2 d hd⟩
def falses (E : List Bool) : Nat:=E.countP fun b => !b
theorem falses_set {E : List Bool} {q : Nat} (hq : q < E.length) (h : E[q] = false) : falses (E.set q true) + 1 = falses E:=by
  unfold falses
  induction E generalizing q with
  | nil => simp at hq
  | cons b E ih =>
    cases q with
    | zero =>
      simp at h
      subst h
      simp
    | succ q =>
      have:=ih (q:=q) (by simpa using hq) (by simpa using h)
      rw [List.set_cons_succ,List.countP_cons,List.countP_cons]
      omega
theorem acB_of {A : Aut} {t tape : Nat} {E S : List Bool} (hl : E.length = A.acc.length) (h : ∀ q,q < A.acc.length→E.getD q false = endQ A t tape q) : ((List.range E.length).any fun q => S.getD q false && E.getD q false) = acB A t tape S:=by
  unfold acB
  rw [hl,Bool.eq_iff_iff,List.any_eq_true,List.any_eq_true]
  constructor
  · rintro ⟨q,hq,h1⟩
    refine ⟨q,hq,?_⟩
    rw [← h q (List.mem_range.1 hq)]
    exact h1
  · rintro ⟨q,hq,h1⟩
    refine ⟨q,hq,?_⟩
    rw [h q (List.mem_range.1 hq)]
    exact h1
def muE (n6b : Nat) (e : Env) (K : BH) : Nat:=2 * (match K.row n6b with
  | .arr _ cs => cs.countP fun c => match c with | .bool false => true | _ => false
  | _ => 0) + (match e 8 with | .bool true => 1 | _ => 0)
theorem falses_enc (E : List Bool) : (E.map encB).countP (fun c => match c with | .bool false => true | _ => false) = falses E:=by
  unfold falses
  rw [List.countP_map]
  congr 1
  funext b
  cases b <;> rfl
theorem replicate_set {n s : Nat} (h : s < n) : (List.replicate n false).set s true = startB n s:=by
  apply List.ext_getElem?
  intro p
  unfold startB
  by_cases hp : p < n
  · rw [List.getElem?_set,List.getElem?_map,List.getElem?_range hp]
    by_cases e : s = p
    · subst e
      simp [hp]
    · have e' : ¬ p = s:=fun h => e h.symm
      simp [e,e',List.getElem?_replicate,hp]
  · rw [List.getElem?_eq_none (by simp; omega),List.getElem?_eq_none (by simp; omega)]
theorem grow_end {H K K3 : BH} {n2 i t lim : Nat} {L : List Sl} {zs : List BV} {A : Aut} {v : BV} (o : Own base H K L) (hL : L[i]? = some (some n2,.arr 77 zs)) (hz : zs.length = 4) (k : K.Keeps K3) (hr : GrowR base K t lim A v K3) :
    ∃ m b K7,v = .tup [m,.bool b]∧K3.wr base none 4 (.ptr n2 0) m = some K7∧K7.rd none (some 4) (.ptr n2 0) = some m∧H.Keeps K7∧GrowR base H t lim A (.tup [m,.bool b]) K7:=by
  have hi : i < L.length:=(List.getElem?_eq_some_iff.1 hL).1
  unfold GrowR at hr ⊢
  by_cases hb : 0 < lim∧lim < A.acc.length
  · rw [if_pos hb] at hr
    obtain ⟨K7,g7,o7⟩:=(o.call k).putAll i (b:=n2) hL (n:=4) (ds:=[encN 0,encN 0,.nils,.nils]) rfl hz rfl (rt:=none) rfl
    have h7 : (L.set i (some n2,.arr 77 [encN 0,encN 0,.nils,.nils]))[i]? = some (some n2,.arr 77 [encN 0,encN 0,.nils,.nils]):=by simp [hi]
    exact ⟨_,_,K7,hr,g7,rd_all (o7.at i (b:=n2) h7) rfl rfl,o7.keeps,by rw [if_pos hb]⟩
  · rw [if_neg hb] at hr
    obtain ⟨m,e,hm⟩:=hr
    obtain ⟨mu,mw,mbo,mwo,mvs,mfr,rfl,om,hm1,hm2,hm3⟩:=hm
    have u1:=hm1.one
    have w1:=hm2.one
    have oj:=Own.join o k om
    have hL' : (L++((mbo,.arr 4 (A.acc.map encB))::(mwo,.arr 80 mvs)::mfr))[i]? = some (some n2,.arr 77 zs):=by rw [List.getElem?_append_left hi]; exact hL
    obtain ⟨K7,g7,o7⟩:=oj.putAll i (b:=n2) hL' (n:=4) (ds:=[encN t,encN 0,mu,mw]) rfl hz (by simp [u1,w1]) (rt:=none) rfl
    rw [List.set_append_left _ _ hi] at o7
    have h7 : (L.set i (some n2,.arr 77 [encN t,encN 0,mu,mw])++((mbo,.arr 4 (A.acc.map encB))::(mwo,.arr 80 mvs)::mfr))[i]? = some (some n2,.arr 77 [encN t,encN 0,mu,mw]):=by
      rw [List.getElem?_append_left (by simp [hi])]
      simp [hi]
    exact ⟨_,_,K7,e,g7,rd_all (o7.at i (b:=n2) h7) rfl rfl,o7.keeps,by rw [if_neg hb]; exact ⟨_,rfl,mu,mw,mbo,mwo,mvs,mfr,rfl,o7.sub (List.sublist_append_right _ _),hm1,hm2,hm3⟩⟩
theorem i_some (l : Nat) (hl : l = 1000) (t tape : Nat) (ht1 : 1≤t) (ht : t + 1≤3) (htape : tape≤t) (A : Aut) (m : BV) (H : BH) (hm : RdM H (t + 1) 0 A m) (hok : A.Ok (wd (t + 1))) (hn : A.acc.length≤1000000) :
    FnDoes (gam base) 114 [m,encN tape] H fun v K => GrowR base H t l (setA l t tape A) v K:=by
  obtain ⟨R,hR⟩ : ∃ R : BV→BH→Prop,R = fun v K => GrowR base H t l (setA l t tape A) v K:=⟨_,rfl⟩
  rw [← hR]
  refine FnDoes.of (fn:=ir114) rfl ?_
  obtain ⟨u,x,rfl,hu,hx⟩:=hm
  have u1:=hu.one
  have x1:=one_of_isSl hx.isSl
  obtain ⟨n,hnn⟩ : ∃ n,n = A.acc.length:=⟨_,rfl⟩
  have hul:=hu.lenM
  rw [← hnn] at hul
  have hpos:=hok.pos
  have hxl:=hx.len
  rw [hok.len,← hnn] at hxl
  have wt : IntKind.i64.wrap (t : Int) = (t : Int):=wN (by omega)
  have hto : ∀ q,q < A.acc.length→∀ d,d < 2→A.to q (withC t tape (wd t) d) < A.acc.length:=fun q hq d hd => to_lt hok hq (withC_wd htape (by omega) (.inl hd))
  simp [ir114,u1,x1]
  intro n2 b2 f2
  simp [make_of f2 b2]
  intro n3 b3 f3
  simp [make_of f3 b3]
  intro n4 b4 f4
  have o1:=Own.start (base:=base) (H:=H) |>.new f2 b2 (s:=.arr 77 [encN (t + 1),encN 0,u,x]) |>.new f3 b3 (s:=.arr 3 [encN tape]) |>.new f4 b4 (s:=.arr 77 [.int .i64 0,.int .i64 0,.nils,.nils])
  have g2:=rd_ptr (o1.at 2 (b:=n2) rfl) (rt:=none) (j:=2) (c:=u) rfl rfl
  simp [make_of f4 b4,g2]
  refine (x_cloneB (base:=base) A.acc u _ (hu.keeps o1.keeps) hpos (by omega)).step fun v K1 k1 hv => ?_
  obtain ⟨bo,hv,hfr⟩:=hv
  have hvec : Vec bo v n:=by rw [hnn]; simpa using hv.vec
  cases bo with
  | none => have:=hvec.2; omega
  | some wb =>
  have ev : v = .sl wb 0 n:=hvec
  subst ev
  have o2:=o1.take k1 hv hfr
  simp
  intro n6 b6 f6
  obtain ⟨K2,g6,o3⟩:=(o2.new f6 b6 (s:=.arr 22 [.nils])).put 0 (b:=n6) rfl (j:=0) (u:=.sl wb 0 n) (by simp) rfl (rt:=none) rfl
  have o3 : Own base H K2 [(some n6,.arr 22 [.sl wb 0 n]),(some wb,.arr 4 (A.acc.map encB)),(some n4,.arr 77 [.int .i64 0,.int .i64 0,.nils,.nils]),(some n3,.arr 3 [encN tape]),(some n2,.arr 77 [encN (t + 1),encN 0,u,x])]:=o3
  have q0:=rd_ptr (o3.at 4 (b:=n2) rfl) (rt:=none) (j:=0) (c:=encN (t + 1)) rfl rfl
  have q0':=rd_ptr (o3.at 4 (b:=n2) rfl) (rt:=some 77) (j:=0) (c:=encN (t + 1)) rfl rfl
  have q3:=rd_ptr (o3.at 3 (b:=n3) rfl) (rt:=some 3) (j:=0) (c:=encN tape) rfl rfl
  simp only [encN] at q0 q0' q3
  simp [make_of f6 b6,g6,q0,q0',q3,wt]
  have hpd : digs t (wd t) = List.replicate t 2:=by
    have : t = 1∨t = 2:=by omega
    rcases this with rfl | rfl <;> decide
  have hcol : ∀ d,colD ((List.replicate t 2).insertIdx tape d) = withC t tape (wd t) d:=fun d => by unfold withC; rw [hpd]
  have hrep3 : Dig3 (List.replicate t 2):=fun x hx => by have:=List.eq_of_mem_replicate hx; omega
  have hrl : (List.replicate t 2).length = t:=List.length_replicate
  refine (i_padded (base:=base) t K2 (by omega)).step fun v18 K3 k3 hv18 => ?_
  simp
  refine (i_with (base:=base) (List.replicate t 2) tape 0 v18 K3 hv18 (by omega) (by omega) hrep3 (by omega) (by omega)).step fun v20 K4 k4 hv20 => ?_
  subst hv20
  simp
  refine (i_padded (base:=base) t K4 (by omega)).step fun v24 K5 k5 hv24 => ?_
  simp
  refine (i_with (base:=base) (List.replicate t 2) tape 1 v24 K5 hv24 (by omega) (by omega) hrep3 (by omega) (by omega)).step fun v26 K6 k6 hv26 => ?_
  subst hv26
  rw [hcol,hcol]
  obtain ⟨l0,hl0⟩ : ∃ l0,l0 = withC t tape (wd t) 0:=⟨_,rfl⟩
  obtain ⟨l1,hl1⟩ : ∃ l1,l1 = withC t tape (wd t) 1:=⟨_,rfl⟩
  have hl0w : l0 < wd (t + 1):=by rw [hl0]; exact withC_wd htape (by omega) (.inl (by omega))
  have hl1w : l1 < wd (t + 1):=by rw [hl1]; exact withC_wd htape (by omega) (.inl (by omega))
  rw [← hl0,← hl1]
  have k36:=((k3.trans k4).trans k5).trans k6
  simp
  intro n27 b27 f27
  have o4:=(o3.call k36).new f27 b27 (s:=.arr 3 [encN l0,encN l1])
  simp [make_of f27 b27]
  obtain ⟨F,hF⟩ : ∃ F : List Sl,F = [(some n4,.arr 77 [.int .i64 0,.int .i64 0,.nils,.nils]),(some n3,.arr 3 [encN tape]),(some n2,.arr 77 [encN (t + 1),encN 0,u,x])]:=⟨_,rfl⟩
  obtain ⟨S,hS⟩ : ∃ S : List Bool→BH→Prop,S = fun E K => Own base H K ((some n27,.arr 3 [encN l0,encN l1])::(some n6,.arr 22 [.sl wb 0 n])::(some wb,.arr 4 (E.map encB))::F):=⟨_,rfl⟩
  obtain ⟨cl,hcl⟩ : ∃ cl : List Bool→Nat→Prop,cl = fun E q => ∀ p,p < q→E.getD p false = false→E.getD (A.to p l0) false = false∧E.getD (A.to p l1) false = false:=⟨_,rfl⟩
  obtain ⟨I,hI⟩ : ∃ I : Env→BH→Prop,I = fun e K => Has e [(2,.ptr n2 0),(3,.ptr n3 0),(4,.ptr n4 0),(5,.bool false),(6,.ptr n6 0),(7,.sl n27 0 2)]∧∃ E ch,e 8 = .bool ch∧(EndI A t tape E∧S E K)∧(ch = false→cl E n):=⟨_,rfl⟩
  have hmu : ∀ (e : Env) (K : BH) (E : List Bool) (ch : Bool),e 8 = .bool ch→S E K→muE wb e K = 2 * falses E + (if ch = true then 1 else 0):=fun e K E ch he hs => by
    rw [hS] at hs
    have hr:=hs.at 2 (b:=wb) rfl
    unfold muE
    rw [hr,he]
    simp only [falses_enc]
    cases ch <;> rfl
  refine wpC_loop I (muE wb) ?_ ?_
  · rw [hI]
    refine ⟨by simp,A.acc,true,by simp,⟨EndI.start,?_⟩,fun h => by cases h⟩
    rw [hS,hF]
    exact o4
  clear o1 o2 o3 o4 q0 q0' q3 g2 g6
  rintro e K hh
  have hh0:=hh
  rw [hI] at hh
  obtain ⟨⟨e2,e3,e4,e5,e6,e7,-⟩,E,ch,e8,⟨hE,hs⟩,hclo⟩:=hh
  simp only [] at e2 e3 e4 e5 e6 e7
  have hmuE:=hmu e K E ch e8 hs
  have hEl:=hE.len
  cases ch with
  | true =>
    have hs0:=hs
    rw [hS,hF] at hs0
    have g3:=rd_ptr (hs0.at 5 (b:=n2) rfl) (rt:=none) (j:=3) (c:=x) rfl rfl
    simp [e8,e2,g3,hx.isSl,hxl]
    obtain ⟨J,hJ⟩ : ∃ J : Nat→Env→BH→Prop,J = fun q e K => e 32 = encN q∧∃ E' ch',e 8 = .bool ch'∧(EndI A t tape E'∧S E' K)∧(ch' = false→E' = E∧cl E q)∧(ch' = true→falses E' < falses E):=⟨_,rfl⟩
    refine wpC_countK n [(2,.ptr n2 0),(3,.ptr n3 0),(4,.ptr n4 0),(5,.bool false),(6,.ptr n6 0),(7,.sl n27 0 2),(30,x),(31,encN n)] J (i0:=0) rfl ?_ ?_ (Nat.zero_le _) ?_
    · simp [e2,e3,e4,e5,e6,e7]
    · rw [hJ]
      refine ⟨by simp,E,false,by simp,⟨hE,hs⟩,fun _ => ⟨rfl,?_⟩,fun h => by cases h⟩
      rw [hcl]
      intro p hp
      omega
    clear e2 e3 e4 e5 e6 e7 e8 hs0 g3
    rintro q e' K' hq ⟨e2,e3,e4,e5,e6,e7,e30,e31,-⟩ hh
    rw [hJ] at hh
    obtain ⟨e32,E',ch',e8,⟨hE',hs'⟩,hsame,hlt2⟩:=hh
    simp only [] at e2 e3 e4 e5 e6 e7 e30 e31
    have wq:=wS (n:=q) (by omega)
    have hEl':=hE'.len
    by_cases hlt : q < n
    · have o:=hs'
      rw [hS] at o
      have hqE : q < E'.length:=by omega
      have hqN : q < A.nxt.length:=by rw [hok.len]; omega
      obtain ⟨uw,q1,q2⟩:=hx.at hqN
      have q2:=rd_keeps o.keeps (q2 none rfl)
      have hrw : (A.nxt[q]).length = wd (t + 1):=(hok.row _ (List.getElem_mem hqN)).1
      have q1':=q1.keeps o.keeps
      have gc0:=q1'.at (i:=l0) (by rw [hrw]; exact hl0w) (rt:=none) rfl
      have gc1:=q1'.at (i:=l1) (by rw [hrw]; exact hl1w) (rt:=none) rfl
      have ht0 : A.nxt[q][l0]'(by rw [hrw]; exact hl0w) = A.to q l0:=to_get hok hqN (by rw [hrw]; exact hl0w)
      have ht1' : A.nxt[q][l1]'(by rw [hrw]; exact hl1w) = A.to q l1:=to_get hok hqN (by rw [hrw]; exact hl1w)
      have gc0 : K'.rd none none (uw.sat l0 1) = some (encN (A.to q l0)):=by simpa [ht0] using gc0
      have gc1 : K'.rd none none (uw.sat l1 1) = some (encN (A.to q l1)):=by simpa [ht1'] using gc1
      have hz0 : A.to q l0 < n:=by rw [hnn]; exact to_lt hok (by omega) hl0w
      have hz1 : A.to q l1 < n:=by rw [hnn]; exact to_lt hok (by omega) hl1w
      have hw0 : l0 < uw.slen:=by rw [q1.lenM,hrw]; exact hl0w
      have hw1 : l1 < uw.slen:=by rw [q1.lenM,hrw]; exact hl1w
      have hxl' : q < x.slen:=by omega
      have r6:=rd_ptr (o.at 1 (b:=n6) rfl) (rt:=none) (j:=0) (c:=.sl wb 0 n) rfl rfl
      have r0:=rd_ptr (o.at 0 (b:=n27) rfl) (rt:=none) (j:=0) (c:=encN l0) rfl rfl
      have r1:=rd_ptr (o.at 0 (b:=n27) rfl) (rt:=none) (j:=1) (c:=encN l1) rfl rfl
      have gD : ∀ p,p < n→K'.rd none none (.ptr wb p) = some (encB (E'.getD p false)):=fun p hp => rd_ptr (o.at 2 (b:=wb) rfl) (rt:=none) (j:=p) (c:=encB (E'.getD p false)) rfl (by
        rw [List.getElem?_map,List.getD_eq_getElem?_getD,List.getElem?_eq_getElem (by omega)]
        rfl)
      have gE:=gD q hlt
      have ge0:=gD _ hz0
      have ge1:=gD _ hz1
      have hgq : E'.getD q false = E'[q]:=by rw [List.getD_eq_getElem?_getD,List.getElem?_eq_getElem hqE]; rfl
      obtain ⟨b,hb⟩ : ∃ b,b = E'.getD q false:=⟨_,rfl⟩
      obtain ⟨c0,hc0⟩ : ∃ c0,c0 = E'.getD (A.to q l0) false:=⟨_,rfl⟩
      obtain ⟨c1,hc1⟩ : ∃ c1,c1 = E'.getD (A.to q l1) false:=⟨_,rfl⟩
      rw [← hb] at gE
      rw [← hc0] at ge0
      rw [← hc1] at ge1
      have stay : (b = false→c0 = false∧c1 = false)→(ch' = false→E' = E∧cl E (q + 1)):=fun h hf => by
        obtain ⟨h1,h2⟩:=hsame hf
        refine ⟨h1,?_⟩
        rw [hcl] at h2 ⊢
        intro p hp hpf
        by_cases hpq : p = q
        · subst hpq
          rw [← h1] at hpf ⊢
          rw [hb,hc0,hc1] at h
          exact h hpf
        · exact h2 p (by omega) hpf
      have hxl:=hxl'
      rcases Bool.eq_false_or_eq_true b with hbt | hbt
      · subst hbt
        simp [e6,e7,e30,e31,e32,hlt,hx.isSl,hxl,q2,r6,gE,wq]
        rw [hJ]
        exact ⟨by simp,E',ch',by simp [e8],⟨hE',hs'⟩,stay (fun h => by cases h),hlt2⟩
      · subst hbt
        have hbq : E'[q] = false:=by rw [← hgq]; exact hb.symm
        rcases Bool.eq_false_or_eq_true c0 with h0 | h0
        · subst h0
          obtain ⟨K5,g5,o5⟩:=o.put 2 (b:=wb) rfl (j:=q) (u:=.bool true) (by rw [List.length_map]; omega) rfl (rt:=none) rfl
          simp [e6,e7,e30,e31,e32,hlt,hx.isSl,hxl,q2,r6,gE,r0,r1,q1.isSl,hw0,hw1,hz0,hz1,gc0,gc1,ge0,ge1,g5,wq]
          rw [hJ]
          refine ⟨by simp,E'.set q true,true,by simp,⟨hE'.set hqE (d:=0) (by omega) (by rw [← hl0]; exact hc0.symm),?_⟩,fun h => (by cases h),fun _ => ?_⟩
          · rw [hS]
            have o6 : Own base H K5 ((some n27,.arr 3 [encN l0,encN l1])::(some n6,.arr 22 [.sl wb 0 n])::(some wb,.arr 4 ((E'.map encB).set q (.bool true)))::F):=o5
            have e : (E'.map encB).set q (.bool true) = (E'.set q true).map encB:=by rw [List.map_set]
            rw [e] at o6
            exact o6
          · have:=falses_set hqE hbq
            by_cases hc' : ch' = true
            · have:=hlt2 hc'
              omega
            · have hc' : ch' = false:=by simpa using hc'
              have h2 : falses E' = falses E:=by rw [(hsame hc').1]
              omega
        · subst h0
          rcases Bool.eq_false_or_eq_true c1 with h1 | h1
          · subst h1
            obtain ⟨K5,g5,o5⟩:=o.put 2 (b:=wb) rfl (j:=q) (u:=.bool true) (by rw [List.length_map]; omega) rfl (rt:=none) rfl
            simp [e6,e7,e30,e31,e32,hlt,hx.isSl,hxl,q2,r6,gE,r0,r1,q1.isSl,hw0,hw1,hz0,hz1,gc0,gc1,ge0,ge1,g5,wq]
            rw [hJ]
            refine ⟨by simp,E'.set q true,true,by simp,⟨hE'.set hqE (d:=1) (by omega) (by rw [← hl1]; exact hc1.symm),?_⟩,fun h => (by cases h),fun _ => ?_⟩
            · rw [hS]
              have o6 : Own base H K5 ((some n27,.arr 3 [encN l0,encN l1])::(some n6,.arr 22 [.sl wb 0 n])::(some wb,.arr 4 ((E'.map encB).set q (.bool true)))::F):=o5
              have e : (E'.map encB).set q (.bool true) = (E'.set q true).map encB:=by rw [List.map_set]
              rw [e] at o6
              exact o6
            · have:=falses_set hqE hbq
              by_cases hc' : ch' = true
              · have:=hlt2 hc'
                omega
              · have hc' : ch' = false:=by simpa using hc'
                have h2 : falses E' = falses E:=by rw [(hsame hc').1]
                omega
          · subst h1
            simp [e6,e7,e30,e31,e32,hlt,hx.isSl,hxl,q2,r6,gE,r0,r1,q1.isSl,hw0,hw1,hz0,hz1,gc0,gc1,ge0,ge1,wq]
            rw [hJ]
            exact ⟨by simp,E',ch',by simp [e8],⟨hE',hs'⟩,stay (fun _ => ⟨rfl,rfl⟩),hlt2⟩
    · have hqn : q = n:=by omega
      subst hqn
      simp [e31,e32]
      rw [hI]
      refine ⟨⟨by simp [e2,e3,e4,e5,e6,e7],E',ch',by simp [e8],⟨hE',hs'⟩,fun h => ?_⟩,?_⟩
      · obtain ⟨h1,h2⟩:=hsame h
        rw [h1]
        exact h2
      · rw [hmu _ K' E' ch' (by simp [e8]) hs',hmuE]
        cases ch' with
        | true => have:=hlt2 rfl; simp; omega
        | false =>
          have h2 : falses E' = falses E:=by rw [(hsame rfl).1]
          simp
          omega
  | false =>
    have hcln:=hclo rfl
    rw [hcl] at hcln
    have hend : ∀ q,q < A.acc.length→E.getD q false = endQ A t tape q:=fun q hq => hE.done hto (fun p hp hpf d hd => by
      obtain ⟨h0,h1⟩:=hcln p (by omega) hpf
      have : d = 0∨d = 1:=by omega
      rcases this with rfl | rfl
      · rw [← hl0]; exact h0
      · rw [← hl1]; exact h1) hq
    have o:=hs
    rw [hS,hF] at o
    have g0:=rd_ptr (o.at 5 (b:=n2) rfl) (rt:=some 77) (j:=0) (c:=encN (t + 1)) rfl rfl
    have g1:=rd_ptr (o.at 5 (b:=n2) rfl) (rt:=none) (j:=1) (c:=encN 0) rfl rfl
    have g2:=rd_ptr (o.at 5 (b:=n2) rfl) (rt:=none) (j:=2) (c:=u) rfl rfl
    have c1 : (n : Int)≤140737488355328:=by omega
    simp only [encN] at g0 g1
    simp [e8,e2,g2,hu.isSl,hul,c1]
    intro n11 b11 f11
    have o2:=o.new f11 b11 (s:=.arr 4 (List.replicate n (.bool false)))
    have g1':=rd_ptr (o2.at 6 (b:=n2) rfl) (rt:=none) (j:=1) (c:=encN 0) rfl rfl
    simp only [encN] at g1'
    obtain ⟨K3,p3,o3⟩:=o2.put 0 (b:=n11) rfl (j:=0) (u:=.bool true) (by simp; omega) rfl (rt:=none) rfl
    have g0':=rd_ptr (o3.at 6 (b:=n2) rfl) (rt:=some 77) (j:=0) (c:=encN (t + 1)) rfl rfl
    simp only [encN] at g0'
    have hn0 : 0 < n:=by omega
    have est : (List.replicate n (BV.bool false)).set 0 (.bool true) = (startB n 0).map encB:=by
      rw [← replicate_set hn0,List.map_set,List.map_replicate]
    simp [make_of f11 b11,e2,e3,e6,g1',hn0,p3,g0',wt]
    have o3 : Own base H K3 ((some n11,.arr 4 ((startB n 0).map encB))::(some n27,.arr 3 [encN l0,encN l1])::(some n6,.arr 22 [.sl wb 0 n])::(some wb,.arr 4 (E.map encB))::[(some n4,.arr 77 [.int .i64 0,.int .i64 0,.nils,.nils]),(some n3,.arr 3 [encN tape]),(some n2,.arr 77 [encN (t + 1),encN 0,u,x])]):=by
      rw [← est]
      exact o3
    refine (i_setKey (base:=base) (startB n 0) (.sl n11 0 n) K3 (o3.rd 0 rfl (by rw [List.length_map,startB_len]; rfl)) (by rw [startB_len]; omega)).step fun v80 K4 k4 hv80 => ?_
    subst hv80
    have o4:=o3.call k4
    simp
    have w6:=o4.at 2 (b:=n6) rfl
    have w2:=o4.at 6 (b:=n2) rfl
    have w3:=o4.at 5 (b:=n3) rfl
    have wE : Rd K4 4 (.sl wb 0 n) (E.map encB):=o4.rd 3 rfl (by rw [List.length_map,hEl,← hnn]; rfl)
    have wu:=hu.keeps o4.keeps
    have wx:=hx.keeps o4.keeps
    have hfa : ∀ L,K4.Keeps L→∀ S : List Bool,S.length = A.acc.length→FnDoes (gam base) 174 (encW (bitsL S)::[.ptr n6 0]) L fun v _ => v = .bool (acB A t tape S):=fun L kL S hS' => by
      have h6 : L.row n6 = .arr 22 [.sl wb 0 n]:=by rw [kL n6 (by rw [w6]; simp),w6]
      have h1:=i_some1 (base:=base) E S (by omega) n6 (.sl wb 0 n) L h6 (wE.keeps kL) (by omega)
      rw [acB_of hEl hend] at h1
      exact ⟨_,_,h1,BH.Keeps.refl _,rfl⟩
    have hfn : ∀ L,K4.Keeps L→∀ S : List Bool,S.length = A.acc.length→∀ c,c < wd t→FnDoes (gam base) 175 (encW (bitsL S)::encN c::[.ptr n2 0,.ptr n3 0]) L fun v _ => v = encW (bitsL (nxB A t tape S c)):=fun L kL S hS' c hc => by
      have h2 : L.row n2 = .arr 77 [encN (t + 1),encN 0,u,x]:=by rw [kL n2 (by rw [w2]; simp),w2]
      have h3 : L.row n3 = .arr 3 [encN tape]:=by rw [kL n3 (by rw [w3]; simp),w3]
      exact i_some2 (base:=base) t tape n2 n3 c ht1 ht htape A S u x L h2 (wu.keeps kL) (wx.keeps kL) h3 hok hn hS' hc
    have hkey : ∀ k l : List Bool,keyEqM 1 (encW (bitsL k)) (encW (bitsL l)) = some (decide (k = l)):=fun k l => by
      have e : keyEqM 1 (encW (bitsL k)) (encW (bitsL l)) = some (strL (bitsL k) == strL (bitsL l)):=rfl
      rw [e]
      congr 1
      rw [Bool.eq_iff_iff,decide_eq_true_iff]
      exact ⟨fun h => bits_inj (bytes_eq_of_beq h),fun h => by rw [h]; exact bytes_beq_self _⟩
    have hg:=i_grow_stringL (base:=base) (κ:=List Bool) (fun S => encW (bitsL S)) (fun _ => rfl) hkey (fun _ => rfl) t (by omega) (startB n 0) l 174 175 [.ptr n6 0] [.ptr n2 0,.ptr n3 0] (nxB A t tape) (acB A t tape) (fun S => S.length = A.acc.length)
      (by rw [startB_len,hnn]) (fun S hS' c hc => nxB_len _ _ _ _ _) (by omega) (by omega) K4 hfa hfn
    have el : encN l = .int .i64 1000:=by rw [hl]; rfl
    rw [el] at hg
    refine hg.step fun r K5 k5 hr => ?_
    have hr : GrowR base K4 t l (setA l t tape A) r K5:=by
      unfold setA
      rw [← hnn]
      exact hr
    obtain ⟨m,b,K7,rfl,g7,r7,kk,hrel⟩:=grow_end (base:=base) o4 (i:=4) (n2:=n4) rfl rfl k5 hr
    simp [e4,g7,r7]
    rw [hR]
    exact ⟨kk,hrel⟩
theorem i_isTape (T n : Int) (a u x : BV) (H : BH) (ha : a.one = true) (hu : u.one = true) (hx : x.one = true) (hT : -1000≤T∧T≤1000) : FnDoes (gam base) 169 [.agg [.int .i64 T,a,u,x],.int .i64 n] H fun v _ => v = .bool (inB n 0 (T - 1)):=by
  refine FnDoes.of (fn:=ir169) rfl ?_
  simp [ir169,ha,hu,hx]
  intro n2 b2 f2
  have o1:=Own.start (base:=base) (H:=H) |>.new f2 b2 (s:=.arr 25 [.int .i64 T,a,u,x])
  have r0:=rd_ptr (o1.at 0 (b:=n2) rfl) (rt:=none) (j:=0) (c:=.int .i64 T) rfl rfl
  have ws : IntKind.i64.wrap (T - 1) = T - 1:=w64 (by omega) (by omega)
  simp [make_of f2 b2,r0,ws]
  refine callP (i_within n 0 (T - 1) _) ?_
  simp
  exact o1.keeps
theorem i_checkTape (t s tape : Nat) (ht1 : 1≤t) (ht : t + 1≤3) (htape : tape≤t) (A : Aut) (m : BV) (H : BH) (hA : RdRel H (t + 1) s A m) (hok : A.Ok (wd (t + 1))) (hs : s < A.acc.length) (hn : A.acc.length≤150) :
    FnDoes (gam base) 112 [m,encN tape] H fun v _ => v = encN 0:=by
  refine FnDoes.of (fn:=ir112) rfl ?_
  have g1:=hA
  obtain ⟨u,x,rfl,hu,hx⟩:=hA
  have u1:=hu.one
  have x1:=one_of_isSl hx.isSl
  obtain ⟨T,hT⟩ : ∃ T,T = t + 1:=⟨_,rfl⟩
  rw [← hT] at g1 hok ⊢
  simp [ir112,u1,x1]
  intro n2 b2 f2
  have o1:=Own.start (base:=base) (H:=H) |>.new f2 b2 (s:=.arr 25 [encN T,encN s,u,x])
  have r2:=rd_all (o1.at 0 (b:=n2) rfl) (n:=4) (rt:=none) rfl rfl
  simp [make_of f2 b2,r2]
  refine (i_valid (base:=base) T s _ _ _ _ (g1.keeps o1.keeps).raw (by omega)).step fun v K1 k1 hv => ?_
  rw [ok_valid (by omega) (by omega) hok hs hn] at hv
  subst hv
  have o2:=o1.call k1
  have r2:=rd_all (o2.at 0 (b:=n2) rfl) (n:=4) (rt:=none) rfl rfl
  simp [r2]
  refine (i_isTape (base:=base) T tape (encN s) u x _ rfl u1 x1 (by omega)).step fun v K2 k2 hv => ?_
  have hin : inB tape 0 ((T : Int) - 1) = true:=by simp [inB]; omega
  rw [hin] at hv
  subst hv
  have r0:=rd_ptr ((o2.call k2).at 0 (b:=n2) rfl) (rt:=none) (j:=0) (c:=encN T) rfl rfl
  have hT1 : ((T : Int) == 1) = false:=by simp; omega
  simp [r0,hT1]
  exact (o2.call k2).keeps
theorem someN_good {l t tape s : Nat} (ht : t + 1≤3) {A : Aut} : GoodC t (someN l t tape A):=by
  unfold someN
  split
  · exact .none _ _ (by omega)
  · next h =>
    obtain ⟨h1,h2⟩:=setA_ok (l:=l) (t:=t) (tape:=tape) (A:=A) (by omega)
    have h3:=(TA_spec (by omega) h1 (s:=0) h1.pos).1
    rw [h2] at h3
    exact .told h3.ok
theorem i_SomeOn (l : Nat) (hl : l = 1000) (t s tape : Nat) (ht1 : 1≤t) (ht : t + 1≤3) (htape : tape≤t) (A : Aut) (m : BV) (H : BH) (hA : RdRel H (t + 1) s A m) (hok : A.Ok (wd (t + 1))) (hs : s < A.acc.length) (hn : A.acc.length≤150) :
    FnDoes (gam base) 70 [m,encN tape] H fun v K => RelR base H t (someN l t tape (TA (t + 1) (A.lang s))) v K:=by
  obtain ⟨R,hR⟩ : ∃ R : BV→BH→Prop,R = fun v K => RelR base H t (someN l t tape (TA (t + 1) (A.lang s))) v K:=⟨_,rfl⟩
  rw [← hR]
  refine FnDoes.of (fn:=ir70) rfl ?_
  have g1:=hA
  obtain ⟨u,x,rfl,hu,hx⟩:=hA
  have u1:=hu.one
  have x1:=one_of_isSl hx.isSl
  obtain ⟨hT1,hl1⟩:=TA_spec ht hok hs
  obtain ⟨T,hT⟩ : ∃ T,T = t + 1:=⟨_,rfl⟩
  have e1 : (encN (t + 1)) = encN T:=by rw [hT]
  rw [e1] at g1 ⊢
  simp [ir70,u1,x1]
  intro n2 b2 f2
  simp [make_of f2 b2]
  intro n4 b4 f4
  have o1:=Own.start (base:=base) (H:=H) |>.new f2 b2 (s:=.arr 25 [encN T,encN s,u,x]) |>.new f4 b4 (s:=.arr 25 [.int .i64 0,.int .i64 0,.nils,.nils])
  have r2:=rd_all (o1.at 1 (b:=n2) rfl) (n:=4) (rt:=none) rfl rfl
  simp [make_of f4 b4,r2]
  refine (i_checkTape (base:=base) t s tape ht1 ht htape A _ _ (g1.keeps o1.keeps) hok hs hn).step fun v K1 k1 hv => ?_
  subst hv
  have o2:=o1.call k1
  have r2:=rd_all (o2.at 1 (b:=n2) rfl) (n:=4) (rt:=none) rfl rfl
  simp [r2]
  refine (i_tidyOf (base:=base) (t + 1) s ht A _ _ (g1.keeps o2.keeps) hok hs (by omega)).step fun v K2 k2 hv => ?_
  have hv:=hv.rd
  have o3:=o2.call k2
  simp
  refine (i_some (base:=base) l hl t tape ht1 ht htape _ v K2 hv hT1.ok (by omega)).step fun r K3 k3 hr => ?_
  have o4:=o3.call k3
  obtain ⟨B,hB⟩ : ∃ B,B = setA l t tape (TA (t + 1) (A.lang s)):=⟨_,rfl⟩
  have hsN : someN l t tape (TA (t + 1) (A.lang s)) = if l < B.acc.length then (none,3) else told (TA t (B.lang 0)):=by
    unfold someN
    rw [← hB]
    split
    · rfl
    · next h => rw [hB,(setA_ok (by rw [← hB]; omega)).2]
  rw [hsN] at hR
  rw [← hB] at hr
  unfold GrowR at hr
  by_cases hbig : l < B.acc.length
  · rw [if_pos ⟨by omega,hbig⟩] at hr
    subst hr
    simp
    intro n7 b7 f7
    have o5:=o4.new f7 b7 (s:=.arr 77 [.int .i64 0,.int .i64 0,.nils,.nils])
    obtain ⟨K4,g4,o6⟩:=o5.putAll 0 (b:=n7) rfl (n:=4) (ds:=[encN 0,encN 0,.nils,.nils]) rfl rfl rfl (rt:=none) rfl
    obtain ⟨m,K8,e8,g8,r8,kk,hrel⟩:=rel_end (base:=base) (t:=t) (r:=(none,3)) (o6.sub (M:=[(some n4,.arr 25 [.int .i64 0,.int .i64 0,.nils,.nils]),(some n2,.arr 25 [encN T,encN s,u,x])]) (.cons _ (List.Sublist.refl _))) (i:=0) (n2:=n4) rfl rfl (BH.Keeps.refl _) rfl
    cases e8
    have g8' : K4.wr base none 4 (.ptr n4 0) (.agg [.int .i64 0,.int .i64 0,.nils,.nils]) = some K8:=g8
    simp [make_of f7 b7,g4,g8',r8]
    rw [hR,if_pos hbig]
    exact ⟨kk,hrel⟩
  · rw [if_neg (fun h => hbig h.2)] at hr
    obtain ⟨m,rfl,hm⟩:=hr
    have hm:=hm.rd
    obtain ⟨mu,mx,rfl,hmu,hmx⟩:=id hm
    have mu1:=hmu.one
    have mx1:=one_of_isSl hmx.isSl
    have hBok : B.Ok (wd t):=by rw [hB]; exact (setA_ok (by rw [← hB]; omega)).1
    simp [mu1,mx1]
    intro n7 b7 f7
    obtain ⟨K4,g4,o6⟩:=(o4.new f7 b7 (s:=.arr 77 [.int .i64 0,.int .i64 0,.nils,.nils])).putAll 0 (b:=n7) rfl (n:=4) (ds:=[encN t,encN 0,mu,mx]) rfl rfl (by simp [mu1,mx1]) (rt:=none) rfl
    have o6':=(Own.start (base:=base) (H:=K3) |>.new f7 b7 (s:=.arr 77 [.int .i64 0,.int .i64 0,.nils,.nils])).putAll 0 (b:=n7) rfl (n:=4) (ds:=[encN t,encN 0,mu,mx]) rfl rfl (by simp [mu1,mx1]) (rt:=none) rfl
    obtain ⟨K4',g4',o7⟩:=o6'
    have ek : K4' = K4:=by rw [g4] at g4'; exact (Option.some.inj g4').symm
    subst ek
    have r7:=rd_all (o7.at 0 (b:=n7) rfl) (n:=4) (rt:=none) rfl rfl
    simp [make_of f7 b7,g4,r7]
    refine (i_tidied (base:=base) t 0 (by omega) B _ K4' (hm.keeps o7.keeps) hBok hBok.pos (by omega)).step fun r K5 k5 hr => ?_
    obtain ⟨m,K8,rfl,g8,r8,kk,hrel⟩:=rel_end (base:=base) (o4.call (o7.keeps)) (i:=0) (n2:=n4) rfl rfl k5 hr
    simp [g8,r8]
    rw [hR,if_neg hbig]
    exact ⟨kk,hrel⟩
def partW (c tape d i : Nat) : Nat:=if i≤tape then colD (digs i c) + d * p3 tape else colD ((digs (i - 1) c).insertIdx tape d)
def atW (tape i : Nat) : Nat:=if i≤tape then i else i - 1
theorem insert_end {xs : List Nat} {x : Nat} : xs.insertIdx xs.length x = xs++[x]:=by
  rw [insertIdx_eq _ _ _ (Nat.le_refl _)]
  simp
theorem insert_more {xs : List Nat} {x y i : Nat} (h : i≤xs.length) : (xs++[y]).insertIdx i x = xs.insertIdx i x++[y]:=by
  rw [insertIdx_eq _ _ _ (by simp; omega),insertIdx_eq _ _ _ h,List.take_append_of_le_length h,List.drop_append_of_le_length h]
  simp
theorem partW_here (c tape d : Nat) : partW c tape d (tape + 1) = partW c tape d tape:=by
  unfold partW
  rw [if_neg (by omega),if_pos (Nat.le_refl _),Nat.add_sub_cancel]
  have:=insert_end (xs:=digs tape c) (x:=d)
  rw [digs_len] at this
  rw [this,colD_snoc,digs_len]
theorem partW_more {c tape d i : Nat} (h : i≠tape) : partW c tape d (i + 1) = partW c tape d i + dg c (atW tape i) * p3 i:=by
  unfold partW atW
  by_cases h1 : i < tape
  · rw [if_pos (by omega),if_pos (by omega),if_pos (by omega),digs_succ,colD_snoc,digs_len]
    omega
  · rw [if_neg (by omega),if_neg (by omega),if_neg (by omega),Nat.add_sub_cancel]
    obtain ⟨j,rfl⟩ : ∃ j,i = j + 1:=⟨i - 1,by omega⟩
    rw [Nat.add_sub_cancel,digs_succ,insert_more (by rw [digs_len]; omega),colD_snoc,List.length_insertIdx,digs_len,if_pos (by omega)]
theorem partW_lt {c tape d i : Nat} (hd : d < 3) (ht : tape≤2) (hi : i≤3) : partW c tape d i < 100:=by
  unfold partW
  have hp : p3 tape≤9:=Nat.pow_le_pow_right (by omega) ht
  split
  · have h1:=colD_lt (digs_3 i c)
    rw [digs_len] at h1
    have h2 : p3 i≤27:=Nat.pow_le_pow_right (by omega) hi
    have h3 : d * p3 tape≤2 * 9:=Nat.mul_le_mul (by omega) hp
    omega
  · have h1:=colD_lt (ins_3 (t:=i - 1) (tape:=tape) (c:=c) (d:=d) (by omega) hd)
    rw [ins_len (by omega)] at h1
    have h2 : p3 (i - 1 + 1)≤27:=Nat.pow_le_pow_right (by omega) (show i - 1 + 1≤3 by omega)
    omega
theorem s_with (c t tape d : Nat) (H : BH) (ht : t≤2) (hc : c < 1000000) (htape : tape≤t) (hd : d < 3) : Runs (gam base) 242 [encN c,encN (t + 1),encN tape,encN d] H (encN (withC t tape c d)) H:=by
  refine runs_of (fn:=ir242) rfl ?_
  obtain ⟨T,hT⟩ : ∃ T,T = t + 1:=⟨_,rfl⟩
  rw [← hT]
  simp [ir242]
  refine callP (s_power (base:=base) tape H (by omega)) ?_
  have hp : p3 tape≤9:=Nat.pow_le_pow_right (by omega) (show tape≤2 by omega)
  have hdp : d * p3 tape≤2 * 9:=Nat.mul_le_mul (by omega) hp
  have wm : IntKind.i64.wrap ((d : Int) * (p3 tape : Int)) = ((d * p3 tape : Nat) : Int):=by
    have : (d : Int) * (p3 tape : Int) = ((d * p3 tape : Nat) : Int):=by simp
    rw [this]
    exact wN (by omega)
  have h0 : partW c tape d 0 = d * p3 tape:=by unfold partW; rw [if_pos (Nat.zero_le _)]; simp [digs,colD]
  simp [wm]
  refine wpC_countK T [(0,encN c),(1,encN T),(2,encN tape)] (fun i e K => e 11 = encN i∧e 9 = encN (partW c tape d i)∧e 10 = encN (atW tape i)∧K = H) (i0:=0) rfl ?_ ?_ (Nat.zero_le _) ?_
  · simp
  · simp [h0,atW]
  rintro i e K hi ⟨e0,e1,e2,-⟩ ⟨e11,e9,e10,rfl⟩
  simp only [] at e0 e1 e2
  have wi:=wS (n:=i) (by omega)
  by_cases hlt : i < T
  · by_cases heq : i = tape
    · have heb : ((i : Int) != (tape : Int)) = false:=by simp [heq]
      have h1:=partW_here c tape d
      have h2 : atW tape (tape + 1) = atW tape tape:=by unfold atW; rw [if_neg (by omega),if_pos (Nat.le_refl _)]; omega
      subst heq
      simp [e1,e2,e9,e10,e11,hlt,wi,h1,h2]
    · have heb : ((i : Int) != (tape : Int)) = true:=by simp; omega
      have hne : ¬ (i : Int) = (tape : Int):=by omega
      have h1:=partW_more (c:=c) (d:=d) heq
      have h2 : atW tape (i + 1) = atW tape i + 1:=by unfold atW; split <;> split <;> omega
      have hl:=partW_lt (c:=c) (tape:=tape) (d:=d) (i:=i) hd (by omega) (by omega)
      have ha2 : atW tape i≤3:=by unfold atW; split <;> omega
      obtain ⟨k,hk⟩ : ∃ k,k = atW tape i:=⟨_,rfl⟩
      rw [← hk] at e10 h1 h2 ha2
      obtain ⟨X,hX⟩ : ∃ X,X = partW c tape d i:=⟨_,rfl⟩
      rw [← hX] at e9 h1 hl
      obtain ⟨a,ha⟩ : ∃ a,a = dg c k:=⟨_,rfl⟩
      have ha3 : a≤2:=by have:=dg_lt c k; omega
      obtain ⟨b,hb⟩ : ∃ b,b = p3 i:=⟨_,rfl⟩
      have hb27 : b≤27:=by rw [hb]; exact Nat.pow_le_pow_right (by omega) (show i≤3 by omega)
      have hab : a * b≤54:=Nat.le_trans (Nat.mul_le_mul ha3 hb27) (by decide)
      rw [← ha,← hb] at h1
      have wab : IntKind.i64.wrap ((a : Int) * (b : Int)) = (a : Int) * (b : Int):=by
        have : (a : Int) * (b : Int) = ((a * b : Nat) : Int):=by simp
        rw [this]
        exact w64 (by omega) (by omega)
      have wa : IntKind.i64.wrap ((X : Int) + (a : Int) * (b : Int)) = (X : Int) + (a : Int) * (b : Int):=by
        have : (X : Int) + (a : Int) * (b : Int) = ((X + a * b : Nat) : Int):=by simp
        rw [this]
        exact w64 (by omega) (by omega)
      have wk:=wS (n:=k) (by omega)
      have hdg:=s_digit (base:=base) c k K (by omega) hc
      rw [← ha] at hdg
      have hpw:=s_power (base:=base) i K (by omega)
      rw [← hb] at hpw
      simp [e0,e1,e2,e9,e10,e11,hlt,hne,heq]
      refine callP hdg ?_
      simp [e11]
      refine callP hpw ?_
      simp [wab,wa,e9,e10,e11,wk,wi,hlt]
      rw [h1,h2]
      simp
  · have hie : i = T:=by omega
    subst hie
    have hf : partW c tape d i = withC t tape c d:=by
      rw [hT]
      unfold partW withC
      rw [if_neg (by omega),Nat.add_sub_cancel]
    simp [e1,e9,e11,hf]
theorem s_Same (xs ys : List Nat) (v w : BV) (H : BH) (hv : Rd H 2 v (xs.map encN)) (hw : Rd H 2 w (ys.map encN)) (hx : xs.length≤1000000) (hy : ys.length≤1000000) : Runs (gam base) 55 [v,w] H (.bool (decide (xs = ys))) H:=by
  refine runs_of (fn:=ir55) rfl ?_
  have hvl:=hv.lenM
  have hwl:=hw.lenM
  by_cases hl : xs.length = ys.length
  · have hl1 : ((xs.length : Int) != (ys.length : Int)) = false:=by simp [hl]
    simp [ir55,hv.isSl,hvl,hw.isSl,hwl,hl]
    refine wpC_countK ys.length [(0,v),(1,w)] (fun i e K => e 5 = encN i∧xs.take i = ys.take i∧K = H) (i0:=0) rfl ?_ ?_ (Nat.zero_le _) ?_
    · simp
    · simp
    rintro i e K hi ⟨e0,e1,-⟩ ⟨e5,htk,rfl⟩
    simp only [] at e0 e1
    have wi:=wS (n:=i) (by omega)
    by_cases hlt : i < ys.length
    · have hlx : i < xs.length:=by omega
      have gx:=hv.at (i:=i) (by simpa using hlx) (rt:=none) rfl
      have gx' : K.rd none none (v.sat i 1) = some (encN xs[i]):=by simpa using gx
      have gy:=hw.at (i:=i) (by simpa using hlt) (rt:=none) rfl
      have gy' : K.rd none none (w.sat i 1) = some (encN ys[i]):=by simpa using gy
      by_cases he : xs[i] = ys[i]
      · simp [e0,e1,e5,hv.isSl,hvl,hw.isSl,hwl,hl,hlt,gx',gy',he,wi]
        rw [List.take_add_one,List.take_add_one,List.getElem?_eq_getElem hlx,List.getElem?_eq_getElem hlt,he,htk]
      · have he' : ¬ ((xs[i] : Nat) : Int) = ((ys[i] : Nat) : Int):=by omega
        have hne : ¬ xs = ys:=fun e => he (by subst e; rfl)
        simp [e0,e1,e5,hv.isSl,hvl,hw.isSl,hwl,hl,hlt,gx',gy',he,he',hne]
    · have hie : i = ys.length:=by omega
      subst hie
      have he : xs = ys:=by
        have h1:=htk
        rw [List.take_length,← hl,List.take_length] at h1
        exact h1
      simp [e0,e5,hv.isSl,hvl,hl,he]
  · have hl1 : ((xs.length : Int) != (ys.length : Int)) = true:=by simp; omega
    have hl2 : ¬ (xs.length : Int) = (ys.length : Int):=by omega
    have hne : ¬ xs = ys:=fun e => hl (by rw [e])
    simp [ir55,hv.isSl,hvl,hw.isSl,hwl,hl,hl2,hne]
end Go.Proofs.YtbnmhbmhafbmiaaGreatDoor.W
end
