/-
Balance, by the program.
-/
import Derived.Test.YtkmlmkbpdldjgaaW33
namespace Go.Proofs.Ytkmlmkbpdldjgaa.W
set_option linter.unusedVariables false
set_option linter.unusedSimpArgs false
open Go.B
variable {base : Nat}
attribute [local simp] wpC_skip wpC_region wpC_seq wpC_true wpC_false wpC_block wpC_exit wpC_ret wpO_nil wpO_n wpO_tt wpO_ff wpO_tf wpO_ft wpO_u wpS_mov wpS_pick wpS_build wpS_load wpS_store wpS_nilck wpS_bin wpS_beq wpS_isnil wpS_eqs wpS_not wpS_neg wpS_conv wpS_lea wpS_fld wpS_idx wpS_idxs wpS_slice wpS_sslice wpS_mkfn wpS_mset wpS_look wpS_ext wpS_len wpS_new wpS_box wpS_mk wpS_mkmap wpS_mksl wpS_app wpS_fn wpS_call after_some Post.then Post.inBlock BExit.outOf puto_some puto_none put_eq put_ne Opd.ev argEnv op1_mov op1_pick op1_new op1_box op1_load op1_nilck op1_bin op1_beq op1_not op1_neg op1_conv op1_lea op1_fld op1_len0 op1_len1 op1_idx op1_ext op1_build op1_mk op1_stw op1_mksl op1_eqs pureBin isShift resOf resVals val_tmp val_cell oneOf one_int cells_int one_bool cells_bool one_str cells_str one_nilp cells_nilp one_ptr cells_ptr one_nils cells_nils one_sl cells_sl one_sle cells_sle one_nilm cells_nilm one_mp cells_mp one_nilf cells_nilf one_fn cells_fn one_nili cells_nili cells_agg isSl_sl slen_sl sat_sl make_of asm rtOk wpS_b2s op1_b2s op1_isnil Option.map_some gam_base op1_app op1_mkmap op1_mset op1_look

theorem own_setV {K : BH} {w x : BV} {xs : List (List BV)} {b t : Nat} (own : OwnN base K 26 1 w xs (some b)) (h : t < xs.length) (hx : x.one = true) :
    ∃ K', K.wr base none 1 (.ptr b t) x = some K' ∧ OwnN base K' 26 1 w (xs.set t [x]) (some b) ∧ ∀ d, d ≠ b → K'.row d = K.row d := by
  have hl : (xs[t]).length = 1 := OwnS.all own _ (List.getElem_mem h)
  obtain ⟨b', K', hb, h1, h2, h3, h4⟩ := own.wr (i := t) (j := 0) (u := x) (rt := none) h (by omega) hx rfl
  cases hb
  rw [Nat.mul_one] at h1 h2
  refine ⟨K', by simpa using h2, ?_, fun d hd => h4 d (by rintro e; cases e; exact hd rfl)⟩
  have : (xs[t]).set 0 x = [x] := by
    match hx : xs[t], hl with
    | [y], _ => rfl
  rw [this] at h3
  exact h3
theorem mix_congr {f g : Nat → List BV} {xs : List (List BV)} {i : Nat} (h : ∀ a, a < i → f a = g a) : mixOf f xs i = mixOf g xs i := by
  unfold mixOf
  rw [List.map_congr_left fun a ha => h a (List.mem_range.1 ha)]
theorem Mat.not34 {H K : BH} {n nO : Nat} {ρ : Nat → Nat} {D : Nat → List Bool} (h : Mat base H K n nO ρ D) {d ty : Nat} {cs : List BV} (hr : K.row d = .arr ty cs) (ht : ty ≠ 4) {i : Nat} (hi : i < n) : d ≠ ρ i := by
  rintro rfl
  have := (h.row i hi).live rfl
  rw [hr] at this
  cases this
  exact ht rfl

theorem c72 (s : Int) (bs : List Bool) (es : List E4) (u v : BV) (H : BH) (hu : Sls H 4 1 u (bs.map encB)) (hv : Sls H 54 4 v (es.map E4.enc)) (hl1 : bs.length ≤ 40) (hl2 : es.length ≤ 200) (hin : InR bs.length es) (hlg : Lagy es) :
    ∃ x H', Runs (gam base) 72 [.agg [.int .i64 s, u, v]] H x H' ∧ H.Keeps H' ∧ ∃ bl, x = .bool bl ∧ (bl = true ↔ Bal es) := by
  refine call_of_wp (fn := ir72) (R := fun x H' => H.Keeps H' ∧ ∃ bl, x = .bool bl ∧ (bl = true ↔ Bal es)) rfl ?_
  have hu1 := one_of_isSl hu.isSl
  have hv1 := one_of_isSl hv.isSl
  have hlu : u.slen = bs.length := by rw [hu.len]; simp
  have hlv : v.slen = es.length := by rw [hv.len]; simp
  obtain ⟨n, hn⟩ : ∃ n, n = bs.length := ⟨_, rfl⟩
  simp [ir72, hu1, hv1]
  intro n1 b1 f1
  simp [make_of f1 b1]
  obtain ⟨A0, hA0⟩ : ∃ A0, A0 = H.set n1 (.arr 34 [.int .i64 s, u, v]) := ⟨_, rfl⟩
  have kA0 : H.Keeps A0 := by rw [hA0]; exact BH.keeps_set _ f1
  have a10 : A0.row n1 = .arr 34 [.int .i64 s, u, v] := by rw [hA0, BH.row_set_eq]
  rw [← hA0]
  obtain ⟨_, _, _, l4⟩ := rows3 a10 (rt := none) rfl
  obtain ⟨A1, r1, k1⟩ := c65 (base := base) s bs u v A0 (hu.keeps kA0) hv1
  simp [l4]
  refine ⟨_, A1, r1, BH.KeepsTys.nil _ _, ?_⟩
  have kA1 := kA0.trans k1
  have a11 : A1.row n1 = .arr 34 [.int .i64 s, u, v] := by rw [k1 n1 (by rw [a10]; simp), a10]
  have hc1 : (bs.length : Int) ≤ 140737488355328 := by omega
  have hc24 : 24 * (bs.length : Int) ≤ 140737488355328 := by omega
  simp [hc1, hc24]
  rw [← hn] at hin hl1 hlu hc1 hc24 ⊢
  have h65 : ∀ K : BH, H.Keeps K → Gives (gam base) 65 [.agg [.int .i64 s, u, v]] K (.int .i64 n) := fun K hk => by rw [hn]; exact c65 (base := base) s bs u v K (hu.keeps hk) hv1
  intro nO bO fO
  simp [make_of fO bO]
  obtain ⟨rp, hrp⟩ : ∃ rp, rp = List.replicate n BV.nils := ⟨_, rfl⟩
  rw [← hrp]
  obtain ⟨A2, hA2⟩ : ∃ A2, A2 = A1.set nO (.arr 26 rp) := ⟨_, rfl⟩
  have kA2 : A1.Keeps A2 := by rw [hA2]; exact BH.keeps_set _ fO
  have kHA2 := kA1.trans kA2
  obtain ⟨zs, hzs⟩ : ∃ zs, zs = List.replicate n [BV.nils] := ⟨_, rfl⟩
  have hzl : zs.length = n := by rw [hzs]; simp
  have ownO : OwnN base A2 26 1 (.sl nO 0 n) zs (some nO) := ⟨by simp [hzl], by rw [hA2, BH.row_set_eq, hrp, hzs]; simp, bO, by
    intro x hx
    rw [hzs, List.mem_replicate] at hx
    rw [hx.2]
    rfl⟩
  have a12 : A2.row n1 = .arr 34 [.int .i64 s, u, v] := by rw [kA2 n1 (by rw [a11]; simp), a11]
  have fOH : H.row nO = .fresh := kA1.fresh fO
  have n1O : n1 ≠ nO := by rintro rfl; rw [fO] at a11; cases a11
  rw [← hA2]
  obtain ⟨one, hone⟩ : ∃ one : Nat → List Bool, one = fun i => (List.replicate n false).set i true := ⟨_, rfl⟩
  -- the rows
  refine wpC_count n (fun i e K => e 1 = .ptr n1 0 ∧ e 3 = .sl nO 0 n ∧ e 23 = .int .i64 n ∧ e 24 = .int .i64 i ∧ H.Keeps K ∧ K.row n1 = .arr 34 [.int .i64 s, u, v] ∧
    ∃ ρ : Nat → Nat, OwnN base K 26 1 (.sl nO 0 n) (mixOf (fun i => [.sl (ρ i) 0 n]) zs i) (some nO) ∧ (∀ a, a < i → OwnN base K 4 1 (.sl (ρ a) 0 n) ((one a).map encB) (some (ρ a))) ∧ (∀ a b, a < i → b < i → ρ a = ρ b → a = b) ∧ (∀ a, a < i → H.row (ρ a) = .fresh)) (i0 := 0) ?_ (Nat.zero_le _) ?_
  · exact ⟨rfl, rfl, rfl, rfl, kHA2, a12, fun _ => 0, by rw [mix_zero]; exact ownO, fun a h => by omega, fun a b h => by omega, fun a h => by omega⟩
  rintro i e K hi ⟨e1, e3, e23, e24, hk, rK1, ρ, out, rows, inj, fr⟩
  by_cases hlt : i < n
  · have wi1 : IntKind.i64.wrap ((i : Int) + 1) = (i : Int) + 1 := w64 (by omega) (by omega)
    obtain ⟨_, _, _, x3⟩ := rows3 rK1 (rt := none) rfl
    obtain ⟨K1, r65, k65⟩ := h65 K hk
    simp [e1, e3, e23, e24, hlt, x3]
    refine ⟨_, K1, r65, BH.KeepsTys.nil _ _, ?_⟩
    have hk1 := hk.trans k65
    simp [e1, e3, e23, e24, hlt, hc1]
    intro nr br fr'
    simp [make_of fr' br]
    obtain ⟨rq, hrq⟩ : ∃ rq, rq = List.replicate n (BV.bool false) := ⟨_, rfl⟩
    rw [← hrq]
    obtain ⟨K2, hK2⟩ : ∃ K2, K2 = K1.set nr (.arr 4 rq) := ⟨_, rfl⟩
    have kK2 : K1.Keeps K2 := by rw [hK2]; exact BH.keeps_set _ fr'
    rw [← hK2]
    have hk2 := hk1.trans kK2
    have out2 := (out.keeps k65).keeps kK2
    have ownR : OwnN base K2 4 1 (.sl nr 0 n) ((List.replicate n false).map encB) (some nr) := ⟨by simp, by rw [hK2, BH.row_set_eq, hrq]; simp [encB], br, encBs_all _⟩
    have hmi : i < (mixOf (fun i => [BV.sl (ρ i) 0 n]) zs i).length := by rw [mix_len (by omega)]; omega
    obtain ⟨K3, w3, out3, hk3⟩ := own_setV (x := .sl nr 0 n) out2 hmi rfl
    have nrO : nr ≠ nO := by rintro rfl; have := out2.live rfl; rw [ownR.live rfl] at this; cases this
    have ownR3 : OwnN base K3 4 1 (.sl nr 0 n) ((List.replicate n false).map encB) (some nr) := ownR.stay fun d hd => by cases hd; exact hk3 nr nrO
    have hkK3 := keeps_num hk2 fOH hk3
    obtain ⟨_, K4, w4, ownR4, hk4⟩ := own_setB (x := true) ownR3 (t := i) (by simpa using hlt)
    have frH : H.row nr = .fresh := hk1.fresh fr'
    have hkK4 := keeps_num hkK3 frH hk4
    obtain ⟨ρ', hρ'⟩ : ∃ ρ' : Nat → Nat, ρ' = fun a => if a = i then nr else ρ a := ⟨_, rfl⟩
    have hset := mix_set (f := fun i => [BV.sl (ρ' i) 0 n]) (xs := zs) (i := i) (by omega)
    have hcg : mixOf (fun i => [BV.sl (ρ' i) 0 n]) zs i = mixOf (fun i => [BV.sl (ρ i) 0 n]) zs i := mix_congr fun a ha => by
      have : a ≠ i := by omega
      simp [hρ', this]
    have hri : ρ' i = nr := by simp [hρ']
    have hra : ∀ a, a < i → ρ' a = ρ a := fun a ha => by
      have : a ≠ i := by omega
      simp [hρ', this]
    rw [hcg, hri] at hset
    have out4 : OwnN base K4 26 1 (.sl nO 0 n) (mixOf (fun i => [.sl (ρ' i) 0 n]) zs (i + 1)) (some nO) := by
      rw [← hset]
      exact out3.stay fun d hd => by cases hd; exact hk4 nO (Ne.symm nrO)
    have rdO : K3.rd none none (.ptr nO i) = some (.sl nr 0 n) := by
      have := out3.sls.rd1 (i := i) (c := .sl nr 0 n) (by simp [hmi]) (rt := none) rfl
      simpa [sat_sl] using this
    have liveA : ∀ a, a < i → K1.row (ρ a) ≠ .fresh := fun a ha => by rw [((rows a ha).keeps k65).live rfl]; simp
    have neA : ∀ a, a < i → ρ a ≠ nr := fun a ha => by rintro h; exact liveA a ha (h ▸ fr')
    simp [e1, e3, e23, e24, hlt, w3, rdO, w4, wi1]
    refine ⟨hkK4, ?_, ρ', out4, fun a ha => ?_, fun a b ha hb hab => ?_, fun a ha => ?_⟩
    · have e1 : K2.row n1 = .arr 34 [.int .i64 s, u, v] := by rw [(k65.trans kK2) n1 (by rw [rK1]; simp), rK1]
      have d1 : n1 ≠ nr := by rintro rfl; rw [ownR.live rfl] at e1; cases e1
      rw [hk4 n1 d1, hk3 n1 n1O, e1]
    · by_cases hai : a = i
      · subst hai
        rw [hri]
        have : one a = (List.replicate n false).set a true := by rw [hone]
        rw [this]
        exact ownR4
      · have ha' : a < i := by omega
        rw [hra a ha']
        refine (((rows a ha').keeps k65).keeps kK2).stay fun d hd => ?_
        cases hd
        have d2 : ρ a ≠ nO := by
          intro h
          have e1 := (rows a ha').live rfl
          rw [h, out.live rfl] at e1
          cases e1
        rw [hk4 _ (neA a ha'), hk3 _ d2]
    · by_cases hai : a = i <;> by_cases hbi : b = i
      · omega
      · rw [hai, hri, hra b (by omega)] at hab
        exact absurd hab.symm (neA b (by omega))
      · rw [hbi, hri, hra a (by omega)] at hab
        exact absurd hab (neA a (by omega))
      · rw [hra a (by omega), hra b (by omega)] at hab
        exact inj a b (by omega) (by omega) hab
    · by_cases hai : a = i
      · rw [hai, hri]
        exact frH
      · rw [hra a (by omega)]
        exact fr a (by omega)
  have hie : i = n := by omega
  subst hie
  rw [mix_end (by omega)] at out
  have mat : Mat base H K i nO ρ one := ⟨out, rows, fun a ha => by rw [hone]; simp, inj, fr, fOH⟩
  obtain ⟨_, _, x2, _⟩ := rows3 rK1 (rt := none) rfl
  have oneg : ∀ a b, a < i → b < i → (ld one a b ↔ b = a) := fun a b ha hb => by
    unfold ld
    rw [hone]
    simp only [List.getD_eq_getElem?_getD, List.getElem?_set]
    by_cases h : a = b
    · subst h; simp [ha]
    · simp [h, Ne.symm h, List.getElem?_replicate, hb]
  simp [e1, e3, e23, e24, x2, hv.isSl, hlv]
  clear e23 e24 out rows
  have hin0 := hin
  -- the edges
  refine wpC_count es.length (fun k e L => e 1 = .ptr n1 0 ∧ e 3 = .sl nO 0 i ∧ e 41 = v ∧ e 42 = .int .i64 es.length ∧ e 43 = .int .i64 k ∧ H.Keeps L ∧ L.row n1 = .arr 34 [.int .i64 s, u, v] ∧
    ∃ D, Mat base H L i nO ρ D ∧ Sound i es D ∧ (∀ a, a < i → ld D a a) ∧ (∀ x ∈ es.take k, ld D x.f.toNat x.t.toNat)) (i0 := 0) ?_ (Nat.zero_le _) ?_
  · refine ⟨by simp [e1], by simp [e3], by simp, by simp, by simp, hk, rK1, one, mat, ⟨fun a b ha hb h => ?_⟩, fun a ha => (oneg a a ha ha).2 rfl, fun x hx => by simp at hx⟩
    have := (oneg a b ha hb).1 h
    subst this
    exact ⟨[], rfl⟩
  clear e1 e3 hk rK1 mat
  rintro k e L hk ⟨e1, e3, e41, e42, e43, hkL, rL1, D, mat, snd, rfl', eds⟩
  by_cases hlt2 : k < es.length
  · have hrd : L.rd none (some 4) (v.sat k 4) = some (.agg (E4.enc es[k])) := (hv.keeps hkL).rd (by simp [hlt2]) rfl
    have wk1 : IntKind.i64.wrap ((k : Int) + 1) = (k : Int) + 1 := w64 (by omega) (by omega)
    have he := List.getElem_mem hlt2
    have hin' := hin es[k] he
    have tm := @take_mem es k hlt2
    obtain ⟨el, hel⟩ : ∃ el, el = es[k] := ⟨_, rfl⟩
    rw [← hel] at hrd hin' he tm
    have t1 : el.f < i := by omega
    have t2 : el.t < i := by omega
    have t1' : el.f.toNat < i := by omega
    have t2' : el.t.toNat < i := by omega
    simp [e1, e3, e41, e42, e43, hv.isSl, hlv, hlt2, hrd]
    intro n6 b6 f6
    simp [make_of f6 b6, new4 (base := base) (K := L) (nb := n6) (z := [.int .i64 0, .int .i64 0, .str ⟨#[]⟩, .str ⟨#[]⟩]) (e := el) rfl b6]
    obtain ⟨N1, hN1⟩ : ∃ N1, N1 = L.set n6 (.arr 54 el.enc) := ⟨_, rfl⟩
    have kN1 : L.Keeps N1 := by rw [hN1]; exact BH.keeps_set _ f6
    have r6 : N1.row n6 = .arr 54 el.enc := by rw [hN1, BH.row_set_eq]
    rw [← hN1]
    obtain ⟨z0, z1, _, _⟩ := edge_rd r6
    have matN := mat.stay (L := N1) fun d ty cs hd _ => kN1 d (by rw [hd]; simp)
    have rN1 : N1.row n1 = .arr 34 [.int .i64 s, u, v] := by rw [kN1 n1 (by rw [rL1]; simp), rL1]
    obtain ⟨g1, g2⟩ := matN.get t1' t2'
    obtain ⟨N2, w1, mat2, kN2, hs2⟩ := matN.put (hkL.trans kN1) t1' t2' true
    have gk : ∀ a b, ld (fun a => if a = el.f.toNat then (D el.f.toNat).set el.t.toNat true else D a) a b ↔ (a = el.f.toNat ∧ b = el.t.toNat) ∨ ld D a b := fun a b => by
      unfold ld
      rw [put_get (n := i) (mat.len _ t1') t2']
      by_cases h : a = el.f.toNat ∧ b = el.t.toNat
      · simp [h]
      · simp [h]
    simp [e1, e3, e41, e42, e43, z0, z1, hin'.1, hin'.2.2.1, t1, t2, g1, w1, wk1, hlt2]
    refine ⟨kN2, by rw [hs2 n1 (matN.not34 rN1 (by omega) t1'), rN1], _, mat2, ⟨fun a b ha hb h => ?_⟩, fun a ha => (gk a a).2 (.inr (rfl' a ha)), fun x hx => (gk _ _).2 ?_⟩
    · rcases (gk a b).1 h with ⟨rfl, rfl⟩ | h
      · exact ⟨[el], he, rfl, rfl⟩
      · exact snd.path a b ha hb h
    · rcases tm hx with h | h
      · exact .inr (eds x h)
      · subst h
        exact .inl ⟨rfl, rfl⟩
  have hke : k = es.length := by omega
  subst hke
  rw [List.take_length] at eds
  have low0 : Low i es D 0 := fun a b ha hb h => by
    cases h with
    | same => exact rfl' a ha
    | edge e he => exact eds e he
    | «by» m _ hm => omega
  simp [e1, e3, e41, e42, e43]
  clear e41 e42 e43
  -- what leads where
  refine wpC_count i (fun k e L => e 1 = .ptr n1 0 ∧ e 3 = .sl nO 0 i ∧ e 57 = .int .i64 i ∧ e 58 = .int .i64 k ∧ H.Keeps L ∧ L.row n1 = .arr 34 [.int .i64 s, u, v] ∧ ∃ D, Mat base H L i nO ρ D ∧ Sound i es D ∧ Low i es D k) (i0 := 0) ?_ (Nat.zero_le _) ?_
  · exact ⟨by simp [e1], by simp [e3], by simp, by simp, hkL, rL1, D, mat, snd, low0⟩
  clear e1 e3 hkL rL1 mat snd low0 rfl' eds
  rintro k e L hkk ⟨e1, e3, e57, e58, hkL, rL1, D, mat, snd, low⟩
  by_cases hltk : k < i
  · have wk1 : IntKind.i64.wrap ((k : Int) + 1) = (k : Int) + 1 := w64 (by omega) (by omega)
    simp [e1, e3, e57, e58, hltk]
    refine wpC_count i (fun x e M => e 1 = .ptr n1 0 ∧ e 3 = .sl nO 0 i ∧ e 57 = .int .i64 i ∧ e 58 = .int .i64 k ∧ e 7 = .int .i64 k ∧ e 62 = .int .i64 i ∧ e 63 = .int .i64 x ∧ H.Keeps M ∧ M.row n1 = .arr 34 [.int .i64 s, u, v] ∧
      ∃ D, Mat base H M i nO ρ D ∧ Sound i es D ∧ Low i es D k ∧ (∀ a b, a < i → b < i → a < x → Lead es (k + 1) a b → ld D a b)) (i0 := 0) ?_ (Nat.zero_le _) ?_
    · exact ⟨by simp [e1], by simp [e3], by simp [e57], by simp [e58], by simp, by simp, by simp, hkL, rL1, D, mat, snd, low, fun a b _ _ h => by omega⟩
    clear e1 e3 e57 e58
    rintro x e M hx ⟨e1, e3, e57, e58, e7, e62, e63, hkM, rM1, D, mat, snd, low, up⟩
    by_cases hltx : x < i
    · have wx1 : IntKind.i64.wrap ((x : Int) + 1) = (x : Int) + 1 := w64 (by omega) (by omega)
      simp [e1, e3, e57, e58, e7, e62, e63, hltx]
      refine wpC_count i (fun y e N => e 1 = .ptr n1 0 ∧ e 3 = .sl nO 0 i ∧ e 57 = .int .i64 i ∧ e 58 = .int .i64 k ∧ e 7 = .int .i64 k ∧ e 62 = .int .i64 i ∧ e 63 = .int .i64 x ∧ e 8 = .int .i64 x ∧ e 67 = .int .i64 i ∧ e 68 = .int .i64 y ∧ H.Keeps N ∧ N.row n1 = .arr 34 [.int .i64 s, u, v] ∧
        ∃ D, Mat base H N i nO ρ D ∧ Sound i es D ∧ Low i es D k ∧ (∀ a b, a < i → b < i → a < x ∨ (a = x ∧ b < y) → Lead es (k + 1) a b → ld D a b)) (i0 := 0) ?_ (Nat.zero_le _) ?_
      · exact ⟨by simp [e1], by simp [e3], by simp [e57], by simp [e58], by simp [e7], by simp [e62], by simp [e63], by simp, by simp, by simp, hkM, rM1, D, mat, snd, low, fun a b ha hb h => up a b ha hb (by omega)⟩
      clear e1 e3 e57 e58 e7 e62 e63
      rintro y e N hy ⟨e1, e3, e57, e58, e7, e62, e63, e8, e67, e68, hkN, rN1, D, mat, snd, low, up⟩
      by_cases hlty : y < i
      · have wy1 : IntKind.i64.wrap ((y : Int) + 1) = (y : Int) + 1 := w64 (by omega) (by omega)
        obtain ⟨gx, gxy⟩ := mat.get hltx hlty
        obtain ⟨_, gxk⟩ := mat.get hltx hltk
        obtain ⟨gk, gky⟩ := mat.get hltk hlty
        obtain ⟨N2, w1, mat2, kN2, hs2⟩ := mat.put hkN hltx hlty ((D x).getD y false || ((D x).getD k false && (D k).getD y false))
        have gkk : ∀ a b, ld (fun a => if a = x then (D x).set y ((D x).getD y false || ((D x).getD k false && (D k).getD y false)) else D a) a b ↔ (a = x ∧ b = y ∧ ld D x k ∧ ld D k y) ∨ ld D a b := fun a b => by
          unfold ld
          rw [put_get (n := i) (mat.len _ hltx) hlty]
          by_cases h : a = x ∧ b = y
          · obtain ⟨rfl, rfl⟩ := h
            simp only [and_self, if_true, true_and, Bool.or_eq_true, Bool.and_eq_true]
            exact Or.comm
          · rw [if_neg h]
            constructor
            · exact .inr
            · rintro (⟨h1, h2, _⟩ | h1)
              · exact absurd ⟨h1, h2⟩ h
              · exact h1
        obtain ⟨xy, hxy⟩ : ∃ z, z = (D x).getD y false := ⟨_, rfl⟩
        obtain ⟨xk, hxk⟩ : ∃ z, z = (D x).getD k false := ⟨_, rfl⟩
        obtain ⟨ky, hky⟩ : ∃ z, z = (D k).getD y false := ⟨_, rfl⟩
        rw [← hxy] at gxy
        rw [← hxk] at gxk
        rw [← hky] at gky
        rw [← hxy, ← hxk, ← hky] at w1
        simp [e1, e3, e57, e58, e7, e62, e63, e8, e67, e68, hlty, hltx, hltk, gx]
        rw [gxy]
        simp only [Option.map_some, after_some, puto_some]
        refine wpO_cut (fun e M => e 1 = .ptr n1 0 ∧ e 3 = .sl nO 0 i ∧ e 57 = .int .i64 i ∧ e 58 = .int .i64 k ∧ e 7 = .int .i64 k ∧ e 62 = .int .i64 i ∧ e 63 = .int .i64 x ∧ e 8 = .int .i64 x ∧ e 67 = .int .i64 i ∧ e 68 = .int .i64 y ∧ M = N2) ?_ ?_
        · cases xy
          · cases xk
            · simp only [Bool.false_or, Bool.false_and] at w1
              simp [e1, e3, e57, e58, e7, e62, e63, e8, e67, e68, hlty, hltx, hltk, gx, gk, gxk, w1]
            · simp only [Bool.false_or, Bool.true_and] at w1
              simp [e1, e3, e57, e58, e7, e62, e63, e8, e67, e68, hlty, hltx, hltk, gx, gk, gxk, gky, w1]
          · simp only [Bool.true_or] at w1
            simp [e1, e3, e57, e58, e7, e62, e63, e8, e67, e68, hlty, hltx, hltk, gx, gk, w1]
        clear e1 e3 e57 e58 e7 e62 e63 e8 e67 e68
        rintro e M' ⟨e1, e3, e57, e58, e7, e62, e63, e8, e67, e68, rfl⟩
        simp [e1, e3, e57, e58, e7, e62, e63, e8, e67, e68, wy1, hlty]
        refine ⟨kN2, by rw [hs2 n1 (mat.not34 rN1 (by omega) hltx), rN1], _, mat2, ⟨fun a b ha hb h => ?_⟩, fun a b ha hb h => (gkk a b).2 (.inr (low a b ha hb h)), fun a b ha hb h hl => ?_⟩
        · rcases (gkk a b).1 h with ⟨rfl, rfl, h1, h2⟩ | h
          · obtain ⟨p1, hp1⟩ := snd.path _ _ ha hltk h1
            obtain ⟨p2, hp2⟩ := snd.path _ _ hltk hb h2
            exact ⟨p1 ++ p2, hp1.append hp2⟩
          · exact snd.path a b ha hb h
        · by_cases hab : a = x ∧ b = y
          · obtain ⟨rfl, rfl⟩ := hab
            rcases hl.succ with h1 | ⟨h1, h2⟩
            · exact (gkk _ _).2 (.inr (low _ _ ha hb h1))
            · exact (gkk _ _).2 (.inl ⟨rfl, rfl, low _ _ ha hltk h1, low _ _ hltk hb h2⟩)
          · refine (gkk a b).2 (.inr (up a b ha hb ?_ hl))
            omega
      · have hye : y = i := by omega
        subst hye
        simp [e1, e3, e57, e58, e7, e62, e63, e8, e67, e68, wx1, hltx]
        exact ⟨hkN, rN1, D, mat, snd, low, fun a b ha hb h => up a b ha hb (by omega)⟩
    · have hxe : x = i := by omega
      subst hxe
      simp [e1, e3, e57, e58, e7, e62, e63, wk1, hltk]
      exact ⟨hkM, rM1, D, mat, snd, fun a b ha hb h => up a b ha hb ha h⟩
  have hke : k = i := by omega
  subst hke
  obtain ⟨_, _, _, x3⟩ := rows3 rL1 (rt := none) rfl
  obtain ⟨L1, r65, k65⟩ := h65 L hkL
  simp [e1, e3, e57, e58, x3]
  refine ⟨_, L1, r65, BH.KeepsTys.nil _ _, ?_⟩
  have hkL1 := hkL.trans k65
  have rL11 : L1.row n1 = .arr 34 [.int .i64 s, u, v] := by rw [k65 n1 (by rw [rL1]; simp), rL1]
  have mat1 := mat.stay (L := L1) fun d ty cs hd _ => k65 d (by rw [hd]; simp)
  simp [e1, e3]
  clear e57 e58
  -- from each state
  refine wpC_count k (fun r e K => e 1 = .ptr n1 0 ∧ e 3 = .sl nO 0 k ∧ e 106 = .int .i64 k ∧ e 107 = .int .i64 r ∧ H.Keeps K ∧ K.row n1 = .arr 34 [.int .i64 s, u, v] ∧ Mat base H K k nO ρ D ∧ (∀ r', r' < r → ∀ p, Path es r' p r' → lagP p = 0)) (i0 := 0) ?_ (Nat.zero_le _) ?_
  · exact ⟨by simp [e1], by simp [e3], by simp, by simp, hkL1, rL11, mat1, fun r' h => by omega⟩
  clear e1 e3
  rintro r e K hr ⟨e1, e3, e106, e107, hkK, rK1, matK, zero⟩
  by_cases hltr : r < k
  · have wr1 : IntKind.i64.wrap ((r : Int) + 1) = (r : Int) + 1 := w64 (by omega) (by omega)
    simp [e1, e3, e106, e107, hltr]
    intro nM bM fM
    have m0 := mset_own (base := base) (K := K.set nM (.mp [])) (b := nM) (q := r) (x := 0) (ms := []) (BH.row_set_eq _ _ _) bM rfl
    simp only [List.nil_append] at m0
    simp [make_of fM bM, m0, fillB]
    obtain ⟨K1, hK1⟩ : ∃ K1, K1 = (K.set nM (.mp [])).set nM (.mp (encM [(r, 0)])) := ⟨_, rfl⟩
    have kK1 : K.Keeps K1 := by rw [hK1]; exact (BH.keeps_set _ fM).set fM _
    have rM1 : K1.row nM = .mp (encM [(r, 0)]) := by rw [hK1, BH.row_set_eq]
    rw [← hK1]
    intro nL bL fL
    simp [make_of fL bL]
    obtain ⟨K2, hK2⟩ : ∃ K2, K2 = K1.set nL (.arr 2 [.int .i64 r]) := ⟨_, rfl⟩
    have kK2 : K1.Keeps K2 := by rw [hK2]; exact BH.keeps_set _ fL
    rw [← hK2]
    have kKK2 := kK1.trans kK2
    have hkK2 := hkK.trans kKK2
    have fMH : H.row nM = .fresh := hkK.fresh fM
    have fLH : H.row nL = .fresh := (hkK.trans kK1).fresh fL
    have ownL : OwnN base K2 2 1 (.sl nL 0 1) ([(r, (0 : Int))].map fun p => encI p.1) (some nL) := ⟨rfl, by rw [hK2, BH.row_set_eq]; rfl, bL, by
      intro z hz
      simp at hz
      subst hz
      rfl⟩
    have rM2 : K2.row nM = .mp (encM [(r, 0)]) := by rw [kK2 nM (by rw [rM1]; simp), rM1]
    have mat2 := matK.stay (L := K2) fun d ty cs hd _ => kKK2 d (by rw [hd]; simp)
    have rK21 : K2.row n1 = .arr 34 [.int .i64 s, u, v] := by rw [kKK2 n1 (by rw [rK1]; simp), rK1]
    refine wpC_count k (fun j e M => e 1 = .ptr n1 0 ∧ e 3 = .sl nO 0 k ∧ e 106 = .int .i64 k ∧ e 107 = .int .i64 r ∧ e 10 = .int .i64 r ∧ e 11 = .mp nM ∧ e 13 = .int .i64 j ∧ H.Keeps M ∧ M.row n1 = .arr 34 [.int .i64 s, u, v] ∧ Mat base H M k nO ρ D ∧
      ∃ ms w lo, e 12 = w ∧ M.row nM = .mp (encM ms) ∧ OwnN base M 2 1 w (ms.map fun p => encI p.1) lo ∧ Fr H lo ∧ Bfs k es D r ms j 0 ∧ j ≤ ms.length) (i0 := 0) ?_ (Nat.zero_le _) ?_
    · exact ⟨by simp [e1], by simp [e3], by simp [e106], by simp [e107], by simp, by simp, by simp, hkK2, rK21, mat2, [(r, 0)], .sl nL 0 1, some nL, by simp, rM2, ownL, Fr.some fLH, Bfs.start hltr, by simp⟩
    clear e1 e3 e106 e107
    rintro j e M hj ⟨e1, e3, e106, e107, e10, e11, e13, hkM, rM1, matM, ms, w, lo, e12, rMm, own, frl, bfs, hjl⟩
    have hlen := bfs.len
    have lw : w.slen = ms.length := by rw [own.len]; simp
    by_cases hltj : j < ms.length
    · have wj1 : IntKind.i64.wrap ((j : Int) + 1) = (j : Int) + 1 := w64 (by omega) (by omega)
      obtain ⟨_, _, x2, _⟩ := rows3 rM1 (rt := none) rfl
      simp [e1, e3, e106, e107, e10, e11, e12, e13, own.isSl, lw, hltj, x2, hv.isSl, hlv]
      refine wpC_count es.length (fun t e N => e 1 = .ptr n1 0 ∧ e 3 = .sl nO 0 k ∧ e 106 = .int .i64 k ∧ e 107 = .int .i64 r ∧ e 10 = .int .i64 r ∧ e 11 = .mp nM ∧ e 13 = .int .i64 j ∧ e 122 = v ∧ e 123 = .int .i64 es.length ∧ e 124 = .int .i64 t ∧ H.Keeps N ∧ N.row n1 = .arr 34 [.int .i64 s, u, v] ∧ Mat base H N k nO ρ D ∧
        ∃ ms w lo, e 12 = w ∧ N.row nM = .mp (encM ms) ∧ OwnN base N 2 1 w (ms.map fun p => encI p.1) lo ∧ Fr H lo ∧ Bfs k es D r ms j t ∧ j < ms.length) (i0 := 0) ?_ (Nat.zero_le _) ?_
      · exact ⟨by simp [e1], by simp [e3], by simp [e106], by simp [e107], by simp [e10], by simp [e11], by simp [e13], by simp, by simp, by simp, hkM, rM1, matM, ms, w, lo, by simp [e12], rMm, own, frl, bfs, hltj⟩
      clear e1 e3 e106 e107 e10 e11 e12 e13 rMm own frl bfs hlen lw hltj hjl hkM matM
      rintro t e N ht ⟨e1, e3, e106, e107, e10, e11, e13, e122, e123, e124, hkN, rN1, matN, ms, w, lo, e12, rNm, own, frl, bfs, hltj⟩
      have hlen := bfs.len
      have lw : w.slen = ms.length := by rw [own.len]; simp
      by_cases hltt : t < es.length
      · have hrd : N.rd none (some 4) (v.sat t 4) = some (.agg (E4.enc es[t])) := (hv.keeps hkN).rd (by simp [hltt]) rfl
        have wt1 : IntKind.i64.wrap ((t : Int) + 1) = (t : Int) + 1 := w64 (by omega) (by omega)
        have he := List.getElem_mem hltt
        have hin' := hin es[t] he
        have hlag := hlg.lag he
        have hsz := hlg es[t] he
        have skp := bfs.skip hltt
        have add := @Bfs.add k es D r ms j t bfs hin hlg hltj hltt
        have cls := @Bfs.clash k es D r ms j t bfs snd hltr hin hltt
        obtain ⟨el, hel⟩ : ∃ el, el = es[t] := ⟨_, rfl⟩
        rw [← hel] at hrd hin' he hlag hsz skp add cls
        have t1 : el.f < k := by omega
        have t2 : el.t < k := by omega
        have t2' : el.t.toNat < k := by omega
        simp [e1, e3, e106, e107, e10, e11, e12, e13, e122, e123, e124, hv.isSl, hlv, hltt, hrd]
        intro n15 b15 f15
        simp [make_of f15 b15, new4 (base := base) (K := N) (nb := n15) (z := [.int .i64 0, .int .i64 0, .str ⟨#[]⟩, .str ⟨#[]⟩]) (e := el) rfl b15]
        obtain ⟨N1, hN1⟩ : ∃ N1, N1 = N.set n15 (.arr 54 el.enc) := ⟨_, rfl⟩
        have kN1 : N.Keeps N1 := by rw [hN1]; exact BH.keeps_set _ f15
        have r15 : N1.row n15 = .arr 54 el.enc := by rw [hN1, BH.row_set_eq]
        rw [← hN1]
        obtain ⟨z0, z1, _, _⟩ := edge_rd r15
        have z4 := edge_rd4 r15
        have z054 : N1.rd (some 54) none (.ptr n15 0) = some (.int .i64 el.f) := by simp [BH.rd, r15, rtOk, asm, E4.enc]
        have hkN1 := hkN.trans kN1
        have rN11 : N1.row n1 = .arr 34 [.int .i64 s, u, v] := by rw [kN1 n1 (by rw [rN1]; simp), rN1]
        have rNm1 : N1.row nM = .mp (encM ms) := by rw [kN1 nM (by rw [rNm]; simp), rNm]
        have mat1 := matN.stay (L := N1) fun d ty cs hd _ => kN1 d (by rw [hd]; simp)
        have own1 := own.keeps kN1
        have rdj : N1.rd none none (w.sat j 1) = some (.int .i64 ((ms[j]).1 : Nat)) := own1.sls.rd1 (i := j) (by simp [encI, hltj]) rfl
        have hms : ms[j]? = some ((ms[j]).1, (ms[j]).2) := List.getElem?_eq_getElem hltj
        obtain ⟨g1, g2⟩ := mat1.get t2' hltr
        obtain ⟨q, hq⟩ : ∃ q, q = (ms[j]).1 := ⟨_, rfl⟩
        obtain ⟨l, hl⟩ : ∃ l, l = (ms[j]).2 := ⟨_, rfl⟩
        rw [← hq] at rdj hms
        rw [← hl] at hms
        cases qf : (el.f != (q : Int))
        · have hqf : el.f.toNat = q := by
            have : el.f = (q : Int) := by simpa using qf
            omega
          obtain ⟨dl, hdl⟩ : ∃ z, z = (D el.t.toNat).getD r false := ⟨_, rfl⟩
          rw [← hdl] at g2
          cases dl
          · have bfs' := skp (fun q' l' _ _ hd => by unfold ld at hd; rw [← hdl] at hd; cases hd)
            simp [e1, e3, e106, e107, e10, e11, e12, e13, e122, e123, e124, z0, z1, own.isSl, lw, hltj, rdj, qf, hin'.2.2.1, t2, hltr, g1, g2, wt1, hltt]
            exact ⟨hkN1, rN11, mat1, ms, rNm1, lo, own1, frl, bfs', hltj⟩
          have hld : ld D el.t.toNat r := hdl.symm
          have hlk : lookM ms el.f.toNat = some l := look_of bfs.nodup (by rw [hqf]; exact List.mem_of_getElem? hms)
          have sz := bfs.size (q, l) (List.mem_of_getElem? hms)
          simp only [] at sz
          have lk1 := look_own (q := el.f.toNat) rNm1
          rw [hlk] at lk1
          have hfi : ((el.f.toNat : Nat) : Int) = el.f := by omega
          have hti : ((el.t.toNat : Nat) : Int) = el.t := by omega
          rw [hfi] at lk1
          obtain ⟨N2, r83, k83⟩ := c83 (base := base) el N1 hsz.1 hsz.2
          have wl : IntKind.i64.wrap (l + lagE el) = l + lagE el := w64 (by omega) (by omega)
          have hkN2 := hkN1.trans k83
          have rN12 : N2.row n1 = .arr 34 [.int .i64 s, u, v] := by rw [k83 n1 (by rw [rN11]; simp), rN11]
          have rNm2 : N2.row nM = .mp (encM ms) := by rw [k83 nM (by rw [rNm1]; simp), rNm1]
          have mat2 := mat1.stay (L := N2) fun d ty cs hd _ => k83 d (by rw [hd]; simp)
          have own2 := own1.keeps k83
          have r152 : N2.row n15 = .arr 54 el.enc := by rw [k83 n15 (by rw [r15]; simp), r15]
          obtain ⟨_, y1, _, _⟩ := edge_rd r152
          have lk2 := look_own2 (q := el.t.toNat) rNm2
          rw [hti] at lk2
          simp [e1, e3, e106, e107, e10, e11, e12, e13, e122, e123, e124, z0, z1, own.isSl, lw, hltj, rdj, qf, hin'.2.2.1, t2, hltr, g1, g2, z054, lk1, z4]
          refine ⟨_, N2, r83, k83.tys _, ?_⟩
          rw [hqf] at add cls
          cases hlt' : lookM ms el.t.toNat with
          | some y =>
            rw [hlt'] at lk2
            simp only [Option.getD_some, Option.isSome_some] at lk2
            by_cases hne : y = l + lagE el
            · have bfs' := skp (fun q' l' hq' hf hd => by
                rw [hms] at hq'
                cases hq'
                rw [hlt', hne])
              have hne' : (y != l + lagE el) = false := by simpa using hne
              simp [e1, e3, e106, e107, e10, e11, e12, e13, e122, e123, e124, wl, y1, lk2, hne, wt1, hltt]
              exact ⟨hkN2, rN12, mat2, ms, rNm2, lo, own2, frl, bfs', hltj⟩
            · have hne' : (y != l + lagE el) = true := by simpa using hne
              have nb := cls hms hld hlt' hne
              simp [e1, e3, e106, e107, e10, e11, e12, e13, e122, e123, e124, wl, y1, lk2, hne, hne']
              exact ⟨hkN2, nb⟩
          | none =>
            rw [hlt'] at lk2
            simp only [Option.getD_none, Option.isSome_none] at lk2
            have bfs' := add hms hlt'
            have m1 := mset_own (base := base) (x := l + lagE el) rNm2 bM hlt'
            rw [hti] at m1
            obtain ⟨N3, hN3⟩ : ∃ N3, N3 = N2.set nM (.mp (encM (ms ++ [(el.t.toNat, l + lagE el)]))) := ⟨_, rfl⟩
            rw [← hN3] at m1
            have hs3 : ∀ d, d ≠ nM → N3.row d = N2.row d := fun d hd => by rw [hN3, BH.row_set_ne _ _ hd]
            have hkN3 := keeps_num hkN2 fMH hs3
            have arr3 : ∀ d ty cs, N2.row d = .arr ty cs → N3.row d = N2.row d := fun d ty cs hd => hs3 d (by rintro rfl; rw [rNm2] at hd; cases hd)
            have rNm3 : N3.row nM = .mp (encM (ms ++ [(el.t.toNat, l + lagE el)])) := by rw [hN3, BH.row_set_eq]
            have rN13 : N3.row n1 = .arr 34 [.int .i64 s, u, v] := by rw [arr3 n1 _ _ rN12, rN12]
            have mat3 := mat2.stay (L := N3) fun d ty cs hd _ => arr3 d ty cs hd
            have own3 : OwnN base N3 2 1 w (ms.map fun p => encI p.1) lo := own2.stay fun d hd => arr3 d _ _ (own2.live hd)
            have r153 : N3.row n15 = .arr 54 el.enc := by rw [arr3 n15 _ _ r152, r152]
            obtain ⟨_, y13, _, _⟩ := edge_rd r153
            simp [e1, e3, e106, e107, e10, e11, e12, e13, e122, e123, e124, wl, y1, lk2, m1, y13, fillB]
            intro na bna fna
            simp [make_of fna bna]
            intro nb' bnb fnb
            have ks := BH.keeps_set (H := N3) (.arr 2 [.int .i64 el.t]) fna
            obtain ⟨w', N4, lo', h1, h2, h3, h4, h5, h6⟩ := appd_own (base := base) (bytes := 8) (nb := nb') (vy := .sl na 0 1) (hkN3.trans ks) frl (own3.keeps ks) (new := [encI el.t]) (by simpa [encI] using mk_cells (K := N3) (n1 := na) (ty := 2) (sz := 1) (n := 1) (cs := [.int .i64 el.t]) rfl)
              (by intro z hz; simp at hz; subst hz; rfl) (by intro z hz; simp at hz; subst hz; intro c hc; simp [encI] at hc; subst hc; rfl) (by omega) (by simp; omega) (by simp; omega) fnb bnb
            have arr4 : ∀ d ty cs, N3.row d = .arr ty cs → ty ≠ 2 → N4.row d = N3.row d := fun d ty cs hd hty => by
              have e0 := ks d (by rw [hd]; simp)
              rw [h5 d (ne_row (own3.keeps ks) (by rw [e0, hd]) (Ne.symm hty)) (by rw [e0, hd]; simp), e0]
            have rNm4 : N4.row nM = .mp (encM (ms ++ [(el.t.toNat, l + lagE el)])) := by
              have e0 : (N3.set na (.arr 2 [.int .i64 el.t])).row nM = .mp (encM (ms ++ [(el.t.toNat, l + lagE el)])) := by rw [ks nM (by rw [rNm3]; simp), rNm3]
              have d0 : lo ≠ some nM := fun h => by
                have := (own3.keeps ks).live h
                rw [e0] at this
                cases this
              rw [h5 nM d0 (by rw [e0]; simp), e0]
            have rN14 : N4.row n1 = .arr 34 [.int .i64 s, u, v] := by rw [arr4 n1 _ _ rN13 (by omega), rN13]
            have mat4 := mat3.stay (L := N4) fun d ty cs hd hty => arr4 d ty cs hd hty
            have own4 : OwnN base N4 2 1 w' ((ms ++ [(el.t.toNat, l + lagE el)]).map fun p => encI p.1) lo' := by
              rw [List.map_append]
              simpa [hti] using h2
            simp [h1, e1, e3, e106, e107, e10, e11, e13, e122, e123, e124, wt1, hltt]
            exact ⟨h3, rN14, mat4, _, rNm4, lo', own4, h4, bfs', by simp; omega⟩
        · have hqf : el.f.toNat ≠ q := by
            have : el.f ≠ (q : Int) := by simpa using qf
            omega
          have bfs' := skp (fun q' l' hq' hf _ => by
            rw [hms] at hq'
            cases hq'
            exact absurd hf hqf)
          simp [e1, e3, e106, e107, e10, e11, e12, e13, e122, e123, e124, z0, own.isSl, lw, hltj, rdj, qf, wt1, hltt]
          exact ⟨hkN1, rN11, mat1, ms, rNm1, lo, own1, frl, bfs', hltj⟩
      · have hte : t = es.length := by omega
        subst hte
        simp [e1, e3, e106, e107, e10, e11, e12, e13, e122, e123, e124, wj1]
        exact ⟨by omega, hkN, rN1, matN, ms, rNm, lo, own, frl, bfs.next, by omega⟩
    · have hje : j = ms.length := by omega
      subst hje
      simp [e1, e3, e106, e107, e10, e11, e12, e13, own.isSl, lw, wr1, hltr]
      refine ⟨hkM, rM1, matM, fun r' hr' => ?_⟩
      by_cases h : r' < r
      · exact zero r' h
      · have : r' = r := by omega
        subst this
        exact bfs.ends low hltr hin
  · have hre : r = k := by omega
    subst hre
    simp [e1, e3, e106, e107]
    exact ⟨hkK, bal_of hin zero⟩
end Go.Proofs.Ytkmlmkbpdldjgaa.W
