/-
The farthest lags, walked.
-/
import Derived.Test.YtkmlmkbpdldjgaaW30
namespace Go.Proofs.Ytkmlmkbpdldjgaa.W
set_option linter.unusedVariables false
set_option linter.unusedSimpArgs false
open Go.B
variable {base : Nat}
attribute [local simp] wpC_skip wpC_region wpC_seq wpC_true wpC_false wpC_block wpC_exit wpC_ret wpO_nil wpO_n wpO_tt wpO_ff wpO_tf wpO_ft wpO_u wpS_mov wpS_pick wpS_build wpS_load wpS_store wpS_nilck wpS_bin wpS_beq wpS_isnil wpS_eqs wpS_not wpS_neg wpS_conv wpS_lea wpS_fld wpS_idx wpS_idxs wpS_slice wpS_sslice wpS_mkfn wpS_mset wpS_look wpS_ext wpS_len wpS_new wpS_box wpS_mk wpS_mkmap wpS_mksl wpS_app wpS_fn wpS_call after_some Post.then Post.inBlock BExit.outOf puto_some puto_none put_eq put_ne Opd.ev argEnv op1_mov op1_pick op1_new op1_box op1_load op1_nilck op1_bin op1_beq op1_not op1_neg op1_conv op1_lea op1_fld op1_len0 op1_len1 op1_idx op1_ext op1_build op1_mk op1_stw op1_mksl op1_eqs pureBin isShift resOf resVals val_tmp val_cell oneOf one_int cells_int one_bool cells_bool one_str cells_str one_nilp cells_nilp one_ptr cells_ptr one_nils cells_nils one_sl cells_sl one_sle cells_sle one_nilm cells_nilm one_mp cells_mp one_nilf cells_nilf one_fn cells_fn one_nili cells_nili cells_agg isSl_sl slen_sl sat_sl make_of asm rtOk wpS_b2s op1_b2s op1_isnil Option.map_some gam_base op1_app

/-- What a round has done so far. -/
structure Rnd (n : Nat) (es : List E4) (s : Nat) (sign : Int) (k i : Nat) (kn : List Bool) (lg : List Int) (kn' : List Bool) (lg' : List Int) (fl : Bool) : Prop where
  far : Far n es s sign k i kn' lg'
  known : ∀ q, kn.getD q false = true → kn'.getD q false = true ∧ lg.getD q 0 ≤ lg'.getD q 0
  did : ∀ e ∈ es.take i, kn.getD e.f.toNat false = true → kn'.getD e.t.toNat false = true ∧ lg.getD e.f.toNat 0 + sign * lagE e ≤ lg'.getD e.t.toNat 0
  same : fl = false → kn' = kn ∧ lg' = lg
  late : fl = true → Bal es → k < n
section
variable {n : Nat} {es : List E4} {s : Nat} {sign : Int} {k i : Nat} {kn : List Bool} {lg : List Int} {kn' : List Bool} {lg' : List Int} {fl : Bool}
theorem Far.more (h : Far n es s sign k i kn lg) {j : Nat} (hj : i ≤ j) : Far n es s sign k j kn lg :=
  ⟨h.klen, h.llen, h.walk, fun q => by have := h.size q; omega, h.full⟩
theorem take_mem {i : Nat} (hi : i < es.length) {e : E4} (h : e ∈ es.take (i + 1)) : e ∈ es.take i ∨ e = es[i] := by
  rw [List.take_add_one, List.getElem?_eq_getElem hi, List.mem_append] at h
  rcases h with h | h
  · exact .inl h
  · right
    simpa using h
theorem Rnd.skip (h : Rnd n es s sign k i kn lg kn' lg' fl) (hi : i < es.length) (hd : kn.getD (es[i]).f.toNat false = true → kn'.getD (es[i]).t.toNat false = true ∧ lg.getD (es[i]).f.toNat 0 + sign * lagE es[i] ≤ lg'.getD (es[i]).t.toNat 0) :
    Rnd n es s sign k (i + 1) kn lg kn' lg' fl := by
  refine ⟨h.far.more (by omega), h.known, fun e he => ?_, h.same, h.late⟩
  rcases take_mem hi he with h1 | h1
  · exact h.did e h1
  · rw [h1]
    exact hd
theorem Rnd.take (h : Rnd n es s sign k i kn lg kn' lg' fl) (hsg : sign = 1 ∨ sign = -1) (hs : s < n) (hin : InR n es) (hlg : Lagy es) (hi : i < es.length) (hk : kn'.getD (es[i]).f.toNat false = true)
    (hc : kn'.getD (es[i]).t.toNat false = false ∨ lg'.getD (es[i]).t.toNat 0 < lg'.getD (es[i]).f.toNat 0 + sign * lagE es[i]) :
    Rnd n es s sign k (i + 1) kn lg (kn'.set (es[i]).t.toNat true) (lg'.set (es[i]).t.toNat (lg'.getD (es[i]).f.toNat 0 + sign * lagE es[i])) true := by
  have he := List.getElem_mem hi
  obtain ⟨ht, hf⟩ := hin.to he false
  simp only [toE, frE, Bool.false_eq_true, if_false] at ht hf
  have gk : ∀ q, (kn'.set (es[i]).t.toNat true).getD q false = if q = (es[i]).t.toNat then true else kn'.getD q false := fun q => by
    simp only [List.getD_eq_getElem?_getD, List.getElem?_set]
    by_cases hq : (es[i]).t.toNat = q
    · subst hq
      simp [h.far.klen, ht]
    · simp [hq, Ne.symm hq]
  have gl : ∀ q, (lg'.set (es[i]).t.toNat (lg'.getD (es[i]).f.toNat 0 + sign * lagE es[i])).getD q 0 = if q = (es[i]).t.toNat then lg'.getD (es[i]).f.toNat 0 + sign * lagE es[i] else lg'.getD q 0 := fun q => by
    simp only [List.getD_eq_getElem?_getD, List.getElem?_set]
    by_cases hq : (es[i]).t.toNat = q
    · subst hq
      simp [h.far.llen, ht]
    · simp [hq, Ne.symm hq]
  refine ⟨h.far.step hsg hin hlg he hk hc, fun q hq => ?_, fun e hx hq => ?_, fun hh => (by cases hh), fun _ hb => ?_⟩
  · obtain ⟨h1, h2⟩ := h.known q hq
    rw [gk, gl]
    by_cases hqt : q = (es[i]).t.toNat
    · rw [if_pos hqt, if_pos hqt]
      refine ⟨rfl, ?_⟩
      rcases hc with hc | hc
      · rw [hqt, hc] at h1
        cases h1
      · rw [hqt] at h2 ⊢
        omega
    · rw [if_neg hqt, if_neg hqt]
      exact ⟨h1, h2⟩
  · rw [gk, gl]
    rcases take_mem hi hx with h1 | h1
    · obtain ⟨h2, h3⟩ := h.did e h1 hq
      by_cases hqt : e.t.toNat = (es[i]).t.toNat
      · rw [if_pos hqt, if_pos hqt]
        refine ⟨rfl, ?_⟩
        rcases hc with hc | hc
        · rw [hqt, hc] at h2
          cases h2
        · rw [hqt] at h3
          omega
      · rw [if_neg hqt, if_neg hqt]
        exact ⟨h2, h3⟩
    · subst h1
      rw [if_pos rfl, if_pos rfl]
      have := (h.known _ hq).2
      exact ⟨rfl, by omega⟩
  · rcases Nat.lt_or_ge k n with h1 | h1
    · exact h1
    · obtain ⟨h2, h3⟩ := h.far.late hs hb hin h1 he hk
      rcases hc with hc | hc
      · rw [hc] at h2
        cases h2
      · omega
theorem Rnd.next (h : Rnd n es s sign k es.length kn lg kn' lg' fl) (h0 : Far n es s sign k 0 kn lg) (hl : es.length ≤ 200) : Far n es s sign (k + 1) 0 kn' lg' := by
  refine ⟨h.far.klen, h.far.llen, h.far.walk, fun q => ?_, fun r v hp hr => ?_⟩
  · have := h.far.size q
    omega
  · by_cases hk : r.length ≤ k
    · exact h.far.full r v hp hk
    · obtain ⟨q, e, h1, h2, h3, h4⟩ := hp.last (k := k) (by omega)
      have hq : q.length = k := by
        rw [h1] at hr hk
        simp at hr hk
        omega
      obtain ⟨g1, g2⟩ := h0.full q _ h2 (by omega)
      obtain ⟨g3, g4⟩ := h.did e (by rw [List.take_length]; exact h3) g1
      rw [h4] at g3 g4
      refine ⟨g3, ?_⟩
      rw [h1, lagP_snoc, Int.mul_add]
      omega
theorem Rnd.ends (h : Rnd n es s sign k es.length kn lg kn' lg' false) (h0 : Far n es s sign k 0 kn lg) (hreach : ∀ q, q < n → ∃ r, Path es s r q) (hin : InR n es) : ∃ φ : Nat → Int, ∀ e ∈ es, φ e.f.toNat + sign * lagE e ≤ φ e.t.toNat := by
  obtain ⟨rfl, rfl⟩ := h.same rfl
  have hall : ∀ {u v : Nat} {r : List E4}, Path es u r v → kn'.getD u false = true → kn'.getD v false = true := by
    intro u v r
    induction r generalizing u with
    | nil => intro hp hu; cases hp; exact hu
    | cons e r ih =>
      rintro ⟨h1, h2, h3⟩ hu
      subst h2
      exact ih h3 (h.did e (by rw [List.take_length]; exact h1) hu).1
  refine ⟨fun q => lg'.getD q 0, fun e he => ?_⟩
  obtain ⟨ht, hf⟩ := hin.to he false
  simp only [toE, frE, Bool.false_eq_true, if_false] at ht hf
  obtain ⟨r, hr⟩ := hreach _ hf
  have hk := hall hr (h0.full [] s rfl (Nat.zero_le _)).1
  exact (h.did e (by rw [List.take_length]; exact he) hk).2
end

theorem own_setI2 {K : BH} {w : BV} {l : List Int} {b t : Nat} {x : Int} (own : OwnN base K 2 1 w (l.map encI) (some b)) (h : t < l.length) :
    w.sat t 1 = .ptr b t ∧ ∃ K', K.wr base none 1 (.ptr b t) (.int .i64 x) = some K' ∧ OwnN base K' 2 1 w ((l.set t x).map encI) (some b) ∧ ∀ d, d ≠ b → K'.row d = K.row d := by
  obtain ⟨h1, K', h2, h3, h4⟩ := own_setI (x := x) own (t := t) (by simpa using h)
  exact ⟨h1, K', h2, by rw [List.map_set]; exact h3, h4⟩

theorem c82 (sign : Int) (hsg : sign = 1 ∨ sign = -1) (s : Int) (bs : List Bool) (es : List E4) (u v : BV) (m : Nat) (K : BH) (rm : K.row m = .arr 34 [.int .i64 s, u, v]) (hu : Sls K 4 1 u (bs.map encB)) (hv : Sls K 54 4 v (es.map E4.enc))
    (hl1 : bs.length ≤ 40) (hl2 : es.length ≤ 200) (hin : InR bs.length es) (hlg : Lagy es) (hs0 : 0 ≤ s) (hs1 : s < bs.length) (hreach : ∀ q, q < bs.length → ∃ r, Path es s.toNat r q) :
    ∃ x bl K', Runs (gam base) 82 [.ptr m 0, .int .i64 sign] K (.tup [x, .bool bl]) K' ∧ K.Keeps K' ∧ (bl = true → ∃ φ : Nat → Int, ∀ e ∈ es, φ e.f.toNat + sign * lagE e ≤ φ e.t.toNat) ∧ (Bal es → bl = true) := by
  obtain ⟨y, K', h1, x, bl, h2, h3⟩ : ∃ y K', Runs (gam base) 82 [.ptr m 0, .int .i64 sign] K y K' ∧ ∃ x bl, y = .tup [x, .bool bl] ∧ K.Keeps K' ∧ (bl = true → ∃ φ : Nat → Int, ∀ e ∈ es, φ e.f.toNat + sign * lagE e ≤ φ e.t.toNat) ∧ (Bal es → bl = true) := by
    refine call_of_wp (fn := ir82) (R := fun y K' => ∃ x bl, y = .tup [x, .bool bl] ∧ K.Keeps K' ∧ (bl = true → ∃ φ : Nat → Int, ∀ e ∈ es, φ e.f.toNat + sign * lagE e ≤ φ e.t.toNat) ∧ (Bal es → bl = true)) rfl ?_
    have hlu : u.slen = bs.length := by rw [hu.len]; simp
    have hlv : v.slen = es.length := by rw [hv.len]; simp
    have hst : s.toNat < bs.length := by omega
    obtain ⟨q0, q1, _, _⟩ := rows3 rm (rt := none) rfl
    have hc1 : (bs.length : Int) ≤ 140737488355328 := by omega
    have hc8 : 8 * (bs.length : Int) ≤ 140737488355328 := by omega
    simp [ir82, q1, hu.isSl, hlu, hc1, hc8]
    intro n3 b3 f3
    have f3K := f3
    simp [make_of f3 b3, hc1]
    obtain ⟨rq, hrq⟩ : ∃ rq, rq = List.replicate bs.length (BV.int .i64 0) := ⟨_, rfl⟩
    rw [← hrq]
    obtain ⟨A1, hA1⟩ : ∃ A1, A1 = K.set n3 (.arr 2 rq) := ⟨_, rfl⟩
    have kA1 : K.Keeps A1 := by rw [hA1]; exact BH.keeps_set _ f3
    have own3 : OwnN base A1 2 1 (.sl n3 0 bs.length) ((List.replicate bs.length (0 : Int)).map encI) (some n3) := ⟨by simp, by rw [hA1, BH.row_set_eq, hrq]; simp [encI], b3, by
      intro x hx
      simp only [List.map_replicate, List.mem_replicate] at hx
      rw [hx.2]
      rfl⟩
    rw [← hA1]
    intro n4 b4 f4
    simp [make_of f4 b4]
    obtain ⟨rp, hrp⟩ : ∃ rp, rp = List.replicate bs.length (BV.bool false) := ⟨_, rfl⟩
    rw [← hrp]
    obtain ⟨A2, hA2⟩ : ∃ A2, A2 = A1.set n4 (.arr 4 rp) := ⟨_, rfl⟩
    have kA2 : A1.Keeps A2 := by rw [hA2]; exact BH.keeps_set _ f4
    have own4 : OwnN base A2 4 1 (.sl n4 0 bs.length) ((List.replicate bs.length false).map encB) (some n4) := ⟨by simp, by rw [hA2, BH.row_set_eq, hrp]; simp [encB], b4, encBs_all _⟩
    rw [← hA2]
    have kHA2 := kA1.trans kA2
    have rm2 : A2.row m = .arr 34 [.int .i64 s, u, v] := by rw [kHA2 m (by rw [rm]; simp), rm]
    obtain ⟨p0, _, _, _⟩ := rows3 rm2 (rt := none) rfl
    have f4K : K.row n4 = .fresh := kA1.fresh f4
    have n34 : n3 ≠ n4 := by rintro rfl; have := own3.live rfl; rw [f4] at this; cases this
    obtain ⟨hsat, A3, hw, own43, hk3⟩ := own_setB (x := true) own4 (t := s.toNat) (by simpa using hst)
    have kHA3 := keeps_num kHA2 f4K hk3
    have own33 : OwnN base A3 2 1 (.sl n3 0 bs.length) ((List.replicate bs.length (0 : Int)).map encI) (some n3) := (own3.keeps kA2).stay fun d hd => by cases hd; exact hk3 n3 n34
    have own43' : OwnN base A3 4 1 (.sl n4 0 bs.length) ((startB bs.length s).map encB) (some n4) := own43
    have hs1' : s < bs.length := hs1
    simp [p0, hs0, hs1', hw]
    have hfar0 : Far bs.length es s.toNat sign 0 0 (startB bs.length s) (List.replicate bs.length 0) := by
      refine ⟨by simp [startB], by simp, fun q hq hk => ?_, fun q => ?_, fun r v hp hr => ?_⟩
      · have : q = s.toNat := by
          simp only [startB, List.getD_eq_getElem?_getD, List.getElem?_set] at hk
          by_cases h : s.toNat = q
          · exact h.symm
          · simp [h, List.getElem?_replicate, hq] at hk
        subst this
        exact ⟨[], rfl, by simp [lagP, List.getD_eq_getElem?_getD, List.getElem?_replicate, hq]⟩
      · simp only [List.getD_eq_getElem?_getD, List.getElem?_replicate]
        split <;> simp
      · have : r = [] := List.length_eq_zero_iff.1 (by omega)
        subst this
        have hv : s.toNat = v := hp
        subst hv
        simp [startB, lagP, List.getD_eq_getElem?_getD, List.getElem?_set, List.getElem?_replicate, hst]
    refine wpC_count (bs.length + 1) (fun k e L => e 0 = .ptr m 0 ∧ e 1 = .int .i64 sign ∧ e 6 = .int .i64 bs.length ∧ e 7 = .sl n3 0 bs.length ∧ e 8 = .sl n4 0 bs.length ∧ e 9 = .int .i64 k ∧ K.Keeps L ∧
      ∃ kn lg, OwnN base L 2 1 (.sl n3 0 bs.length) (lg.map encI) (some n3) ∧ OwnN base L 4 1 (.sl n4 0 bs.length) (kn.map encB) (some n4) ∧ Far bs.length es s.toNat sign k 0 kn lg ∧ (Bal es → k ≤ bs.length)) (i0 := 0) ?_ (Nat.zero_le _) ?_
    · exact ⟨rfl, rfl, rfl, rfl, rfl, rfl, kHA3, _, _, own33, own43', hfar0, fun _ => Nat.zero_le _⟩
    rintro k e L hk ⟨e0, e1, e6, e7, e8, e9, hkL, kn, lg, oL, oK, far, hbk⟩
    by_cases hkn : k ≤ bs.length
    · have wk1 : IntKind.i64.wrap ((k : Int) + 1) = (k : Int) + 1 := w64 (by omega) (by omega)
      simp [e0, e1, e6, e7, e8, e9, hkn]
      refine wpC_count es.length (fun i e M => e 0 = .ptr m 0 ∧ e 1 = .int .i64 sign ∧ e 6 = .int .i64 bs.length ∧ e 7 = .sl n3 0 bs.length ∧ e 8 = .sl n4 0 bs.length ∧ e 9 = .int .i64 k ∧ e 11 = .int .i64 i ∧ K.Keeps M ∧
        ∃ kn' lg' fl, e 10 = .bool fl ∧ OwnN base M 2 1 (.sl n3 0 bs.length) (lg'.map encI) (some n3) ∧ OwnN base M 4 1 (.sl n4 0 bs.length) (kn'.map encB) (some n4) ∧ Rnd bs.length es s.toNat sign k i kn lg kn' lg' fl) (i0 := 0) ?_ (Nat.zero_le _) ?_
      · exact ⟨by simp [e0], by simp [e1], by simp [e6], by simp [e7], by simp [e8], by simp [e9], by simp, hkL, kn, lg, false, by simp, oL, oK, ⟨far, fun q hq => ⟨hq, Int.le_refl _⟩, fun e he => by simp at he, fun _ => ⟨rfl, rfl⟩, fun h => by cases h⟩⟩
      clear e0 e1 e6 e7 e8 e9
      rintro i e M hi ⟨e0, e1, e6, e7, e8, e9, e11, hkM, kn', lg', fl, e10, oL', oK', rnd⟩
      have rmM : M.row m = .arr 34 [.int .i64 s, u, v] := by rw [hkM m (by rw [rm]; simp), rm]
      obtain ⟨_, _, x2, _⟩ := rows3 rmM (rt := none) rfl
      by_cases hlt : i < es.length
      · have wi1 : IntKind.i64.wrap ((i : Int) + 1) = (i : Int) + 1 := w64 (by omega) (by omega)
        obtain ⟨b, o, hsat', hf⟩ := (hv.keeps hkM).fldt (i := i) (x := es[i].enc) (by simp [hlt])
        have hin' := hin es[i] (List.getElem_mem hlt)
        have hlag := hlg.lag (List.getElem_mem hlt)
        have hsz := hlg es[i] (List.getElem_mem hlt)
        have hsl : -1 ≤ sign * lagE es[i] ∧ sign * lagE es[i] ≤ 1 := by rcases hsg with rfl | rfl <;> omega
        have klen := rnd.far.klen
        have llen := rnd.far.llen
        have t1 : es[i].f < bs.length := by omega
        have t2 : es[i].t < bs.length := by omega
        have t1' : es[i].f.toNat < bs.length := by omega
        have t2' : es[i].t.toNat < bs.length := by omega
        have rdK : ∀ q : Nat, q < bs.length → M.rd none none (.ptr n4 q) = some (.bool (kn'.getD q false)) := fun q hq => by
          have := oK'.sls.rd1 (i := q) (c := .bool (kn'.getD q false)) (by simp [encB, klen, hq]) (rt := none) rfl
          simpa [sat_sl] using this
        have rdL : ∀ (rt : Option Nat) (q : Nat), rtOk rt 2 = true → q < bs.length → M.rd rt none (.ptr n3 q) = some (.int .i64 (lg'.getD q 0)) := fun rt q hrt hq => by
          have := oL'.sls.rd1 (i := q) (c := .int .i64 (lg'.getD q 0)) (by simp [encI, llen, hq]) (rt := rt) hrt
          simpa [sat_sl] using this
        have kF := rdK _ t1'
        have kT := rdK _ t2'
        have lF := rdL (some 2) _ rfl t1'
        have lT := rdL none _ rfl t2'
        have szF := rnd.far.size es[i].f.toNat
        have skp := rnd.skip hlt
        have tk := rnd.take hsg hst hin hlg hlt
        obtain ⟨kf, hkf⟩ : ∃ x, x = kn'.getD es[i].f.toNat false := ⟨_, rfl⟩
        obtain ⟨kt, hkt⟩ : ∃ x, x = kn'.getD es[i].t.toNat false := ⟨_, rfl⟩
        obtain ⟨lf, hlf⟩ : ∃ x, x = lg'.getD es[i].f.toNat 0 := ⟨_, rfl⟩
        obtain ⟨lt, hlt'⟩ : ∃ x, x = lg'.getD es[i].t.toNat 0 := ⟨_, rfl⟩
        have hdf := rnd.known es[i].f.toNat
        rw [← hkf, ← hlf] at hdf
        rw [← hkf] at kF tk
        rw [← hkt] at kT skp tk
        rw [← hlf] at lF szF tk
        rw [← hlt'] at lT skp tk
        obtain ⟨el, hel⟩ : ∃ el, el = es[i] := ⟨_, rfl⟩
        rw [← hel] at hf hin' hlag hsz hsl t1 t2 t1' t2' kF kT lF lT skp tk hdf
        have f0 := hf none 0 (.int .i64 el.f) rfl rfl
        have f0' := hf (some 54) 0 (.int .i64 el.f) rfl rfl
        have f1 := hf none 1 (.int .i64 el.t) rfl rfl
        have f2 := hf none 2 (.str el.i) rfl rfl
        have f3 := hf none 3 (.str el.o) rfl rfl
        simp only [Nat.add_zero] at f0 f0'
        have r85 := c85 (base := base) el b o M f2 f3 hsz.1 hsz.2
        cases kf
        · have rnd' := skp (fun h => by have := (hdf h).1; cases this)
          simp [e0, e1, e6, e7, e8, e9, e11, x2, hv.isSl, hlv, hlt, hsat', f0, hin'.1, t1, kF, wi1]
          refine ⟨hkM, kn', lg', ?_⟩
          cases fl with
          | false => exact .inl ⟨e10, oL', oK', rnd'⟩
          | true => exact .inr ⟨e10, oL', oK', rnd'⟩
        have wm : IntKind.i64.wrap (sign * lagE el) = sign * lagE el := w64 (by omega) (by omega)
        have wd : IntKind.i64.wrap (lf + sign * lagE el) = lf + sign * lagE el := w64 (by omega) (by omega)
        simp [e0, e1, e6, e7, e8, e9, e11, x2, hv.isSl, hlv, hlt, hsat', f0, f0', hin'.1, t1, kF, lF]
        refine ⟨_, M, r85, (BH.Keeps.refl M).tys _, ?_⟩
        -- the write
        have doit : (kt = false ∨ lt < lf + sign * lagE el) → ∃ M1 M2, M.wr base none 1 (.ptr n3 el.t.toNat) (.int .i64 (lf + sign * lagE el)) = some M1 ∧ M1.wr base none 1 (.ptr n4 el.t.toNat) (.bool true) = some M2 ∧ K.Keeps M2 ∧ M1.row m = .arr 34 [.int .i64 s, u, v] ∧ Sls M1 54 4 v (es.map E4.enc) ∧
            OwnN base M2 2 1 (.sl n3 0 bs.length) ((lg'.set el.t.toNat (lf + sign * lagE el)).map encI) (some n3) ∧ OwnN base M2 4 1 (.sl n4 0 bs.length) ((kn'.set el.t.toNat true).map encB) (some n4) ∧ Rnd bs.length es s.toNat sign k (i + 1) kn lg (kn'.set el.t.toNat true) (lg'.set el.t.toNat (lf + sign * lagE el)) true := fun hc => by
          obtain ⟨_, M1, w1, o1, hk1⟩ := own_setI2 (x := lf + sign * lagE el) oL' (t := el.t.toNat) (by omega)
          have oK1 : OwnN base M1 4 1 (.sl n4 0 bs.length) (kn'.map encB) (some n4) := oK'.stay fun d hd => by cases hd; exact hk1 n4 (Ne.symm n34)
          obtain ⟨_, M2, w2, o2, hk2⟩ := own_setB (x := true) oK1 (t := el.t.toNat) (by omega)
          have kM1 := keeps_num hkM f3K hk1
          refine ⟨M1, M2, w1, w2, keeps_num kM1 f4K hk2, by rw [kM1 m (by rw [rm]; simp), rm], hv.keeps kM1, o1.stay fun d hd => by cases hd; exact hk2 n3 n34, o2, tk rfl hc⟩
        cases kt
        · obtain ⟨M1, M2, w1, w2, kM2, rm1, sl1, o1, o2, rnd'⟩ := doit (.inl rfl)
          obtain ⟨_, _, y2, _⟩ := rows3 rm1 (rt := none) rfl
          obtain ⟨b', o', hs', hf'⟩ := sl1.fldt (i := i) (x := es[i].enc) (by simp [hlt])
          rw [hsat'] at hs'
          cases hs'
          rw [← hel] at hf'
          have g1 := hf' none 1 (.int .i64 el.t) rfl rfl
          simp [e0, e1, e6, e7, e8, e9, e11, x2, hv.isSl, hlv, hlt, hsat', f1, hin'.2.2.1, t2, kT, wm, wd, w1, g1, w2, wi1]
          exact ⟨kM2, _, _, o1, o2, rnd'⟩
        · by_cases hgt : lt < lf + sign * lagE el
          · obtain ⟨M1, M2, w1, w2, kM2, rm1, sl1, o1, o2, rnd'⟩ := doit (.inr hgt)
            obtain ⟨b', o', hs', hf'⟩ := sl1.fldt (i := i) (x := es[i].enc) (by simp [hlt])
            rw [hsat'] at hs'
            cases hs'
            rw [← hel] at hf'
            have g1 := hf' none 1 (.int .i64 el.t) rfl rfl
            simp [e0, e1, e6, e7, e8, e9, e11, x2, hv.isSl, hlv, hlt, hsat', f1, hin'.2.2.1, t2, kT, lT, wm, wd, hgt, w1, g1, w2, wi1]
            exact ⟨kM2, _, _, o1, o2, rnd'⟩
          · have rnd' := skp (fun h => ⟨rfl, by have := (hdf h).2; omega⟩)
            simp [e0, e1, e6, e7, e8, e9, e11, x2, hv.isSl, hlv, hlt, hsat', f1, hin'.2.2.1, t2, kT, lT, wm, wd, hgt, wi1]
            first
              | exact ⟨hkM, kn', lg', fl, e10, oL', oK', rnd'⟩
              | (refine ⟨hkM, kn', lg', ?_⟩
                 cases fl with
                 | false => exact .inl ⟨e10, oL', oK', rnd'⟩
                 | true => exact .inr ⟨e10, oL', oK', rnd'⟩)
      · have hie : i = es.length := by omega
        subst hie
        cases fl
        · simp [e0, e1, e6, e7, e8, e9, e10, e11, x2, hv.isSl, hlv]
          exact ⟨hkM, rnd.ends far hreach hin⟩
        · simp [e0, e1, e6, e7, e8, e9, e10, e11, x2, hv.isSl, hlv, wk1]
          refine ⟨by omega, hkM, kn', lg', oL', oK', rnd.next far hl2, fun hb => ?_⟩
          have := rnd.late rfl hb
          omega
    · have : ¬ ((k : Int) ≤ (bs.length : Int)) := by omega
      simp [e0, e1, e6, e7, e8, e9, hkn]
      refine ⟨hkL, fun hb => ?_⟩
      have := hbk hb
      omega
  subst h2
  exact ⟨x, bl, K', h1, h3⟩
end Go.Proofs.Ytkmlmkbpdldjgaa.W
