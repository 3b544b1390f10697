/-
The machine B at work: rules for showing what code does.
-/
import Derived.Test.YtkgjipjkffjlhaaDoorB18
namespace Go.B
set_option linter.unusedVariables false
set_option linter.unusedSimpArgs false

/-! ### slices, read -/
def BV.isSl : BV → Bool
  | .nils | .sle | .sl _ _ _ => true
  | _ => false
def BV.slen : BV → Nat
  | .sl _ _ n => n
  | _ => 0
def BV.sat (v : BV) (i sz : Nat) : BV := match v with
  | .sl b o _ => .ptr b (o + i * sz)
  | _ => .any
/-- What a variable holds. -/
def BH.rd (H : BH) (rt : Option Nat) (n : Option Nat) (p : BV) : Option BV := match p with
  | .ptr b o => match H.row b with
    | .arr ty cs => if rtOk rt ty = true ∧ o + n.getD 1 ≤ cs.length then asm n ((cs.drop o).take (n.getD 1)) else none
    | _ => none
  | _ => none

section
variable {base nb : Nat} {σ : Opd → BV} {H : BH}
theorem op1_mov {x : Opd} : op1 base nb σ H (.mov x) = some (σ x, H) := rfl
theorem op1_pick {c a b : Opd} : op1 base nb σ H (.pick c a b) = match σ c with | .bool true => some (σ a, H) | .bool false => some (σ b, H) | _ => none := rfl
theorem op1_new {ty : Nat} {z : List BV} : op1 base nb σ H (.new ty z) = (H.make base nb (.arr ty z)).map fun K => (.ptr nb 0, K) := rfl
theorem op1_box {ty : Nat} {x : Opd} : op1 base nb σ H (.box ty x) = if (σ x).cells.all BV.one = true then (H.make base nb (.arr ty (σ x).cells)).map fun K => (.ptr nb 0, K) else none := rfl
theorem op1_load {rt n : Option Nat} {a : Opd} : op1 base nb σ H (.load rt n a) = (H.rd rt n (σ a)).map (·, H) := by
  cases ha : σ a <;> simp only [op1, BH.rd, ha] <;> try rfl
  rename_i b o
  cases hb : H.row b <;> simp only [] <;> try rfl
  split <;> rfl
theorem op1_nilck {x : Opd} : op1 base nb σ H (.nilck x) = match σ x with | .ptr b o => some (.ptr b o, H) | .fn f cs => some (.fn f cs, H) | _ => none := rfl
theorem op1_bin {op : BinOp} {x y : Opd} : op1 base nb σ H (.bin op x y) = (pureBin op (σ x) (σ y)).map (·, H) := rfl
theorem op1_beq {neg : Bool} {x y : Opd} : op1 base nb σ H (.beq neg x y) = match σ x, σ y with | .bool a, .bool b => some (.bool (if neg then !(a == b) else a == b), H) | _, _ => none := rfl
theorem op1_not {x : Opd} : op1 base nb σ H (.not x) = match σ x with | .bool b => some (.bool (!b), H) | _ => none := rfl
theorem op1_neg {x : Opd} : op1 base nb σ H (.neg x) = match σ x with | .int k n => some (.int k (k.wrap (0 - n)), H) | _ => none := rfl
theorem op1_conv {k : IntKind} {x : Opd} : op1 base nb σ H (.conv k x) = match σ x with | .int _ n => some (.int k (k.wrap n), H) | _ => none := rfl
theorem op1_lea {off : Nat} {x : Opd} : op1 base nb σ H (.lea off x) = match σ x with | .ptr b o => some (.ptr b (o + off), H) | _ => none := rfl
theorem op1_fld {off : Nat} {n : Option Nat} {x : Opd} : op1 base nb σ H (.fld off n x) = match σ x with | .agg cs => if off + n.getD 1 ≤ cs.length then (asm n ((cs.drop off).take (n.getD 1))).map (·, H) else none | _ => none := rfl
theorem op1_len0 {x : Opd} : op1 base nb σ H (.len 0 x) = match σ x with | .str s => some (.int .i64 s.size, H) | _ => none := by
  cases h : σ x <;> simp only [op1, h]
theorem op1_len1 {x : Opd} : op1 base nb σ H (.len 1 x) = if (σ x).isSl = true then some (.int .i64 (σ x).slen, H) else none := by
  cases h : σ x <;> simp [op1, h, BV.isSl, BV.slen]
theorem op1_idx {sz : Nat} {x i : Opd} : op1 base nb σ H (.idx sz x i) = match σ i with
    | .int _ j => if (σ x).isSl = true ∧ 0 ≤ j ∧ j < (σ x).slen then some ((σ x).sat j.toNat sz, H) else none
    | _ => none := by
  cases h : σ x <;> cases h2 : σ i <;> simp [op1, h, h2, BV.isSl, BV.slen, BV.sat]
  all_goals (intro h3 h4; omega)
theorem op1_idxs {x i : Opd} : op1 base nb σ H (.idxs x i) = match σ x, σ i with | .str s, .int _ j => if 0 ≤ j then (s[j.toNat]?).map fun b => (.int .u8 b.toNat, H) else none | _, _ => none := rfl
theorem op1_ext {i : Nat} {x : Opd} : op1 base nb σ H (.ext i x) = match σ x with | .tup vs => vs[i]?.map (·, H) | _ => none := rfl
theorem op1_build {z : List BV} {ps : List (Nat × Nat × Opd)} : op1 base nb σ H (.build z ps) = match fillB z (ps.map fun (o, n, x) => (o, n, σ x)) with | some cs => some (.agg cs, H) | none => none := rfl
theorem op1_mk {ty n : Nat} {z : List BV} {ps : List (Nat × Nat × Opd)} : op1 base nb σ H (.mk ty n z ps) = match fillB z (ps.map fun (o, n, x) => (o, n, σ x)) with
    | some cs => (H.make base nb (.arr ty cs)).map fun K => (.sl nb 0 n, K) | none => none := rfl
theorem op1_store {rt : Option Nat} {n : Nat} {a v : Opd} : op1 base nb σ H (.store rt n a v) = match σ a with
    | .ptr b o => match H.row b with
      | .arr ty cs => if rtOk rt ty = true ∧ base ≤ b ∧ (σ v).cells.length = n ∧ o + n ≤ cs.length ∧ (σ v).cells.all BV.one = true then
          some (.tup [], H.set b (.arr ty (cs.take o ++ (σ v).cells ++ cs.drop (o + n)))) else none
      | _ => none
    | _ => none := rfl
theorem op1_mksl {ty bytes : Nat} {zero : List BV} {len cap : Opd} : op1 base nb σ H (.mksl ty bytes zero len cap) = match σ len, σ cap with
    | .int _ n, .int _ c => if 0 ≤ n ∧ n ≤ c ∧ (bytes : Int) * c ≤ 140737488355328 ∧ c ≤ 140737488355328 then
        (H.make base nb (.arr ty (List.flatten (List.replicate n.toNat zero)))).map fun K => (.sl nb 0 n.toNat, K) else none
    | _, _ => none := rfl
theorem op1_isnil {neg : Bool} {x : Opd} : op1 base nb σ H (.isnil neg x) = match σ x with | .nils => some (.bool (!neg), H) | .sl _ _ _ => some (.bool neg, H) | _ => none := rfl
theorem op1_eqs {neg : Bool} {fs : List (Nat × Nat)} {x y : Opd} : op1 base nb σ H (.eqs neg fs x y) = match σ x, σ y with
    | .agg xs, .agg ys => (eqFieldsB xs ys fs).map fun b => (.bool (if neg then !b else b), H) | _, _ => none := rfl
end

section
variable {base : Nat} {C : CRel} {Q : Post} {e : Env} {H : BH}
theorem wpC_skip : wpC base C .skip Q e H = Q .normal e H := rfl
theorem wpC_region {ops : List BOper} : wpC base C (.region ops) Q e H = wpO base C ops (Q .normal) e H := rfl
theorem wpC_seq {a b : BCode} : wpC base C (.seq a b) Q e H = wpC base C a (Post.then (wpC base C b Q) Q) e H := rfl
theorem wpC_cond {c : Opd} {a b : BCode} : wpC base C (.cond c a b) Q e H = match c.ev e with
    | .bool true => wpC base C a Q e H
    | .bool false => wpC base C b Q e H
    | _ => False := rfl
theorem wpC_block {id : Nat} {b : BCode} : wpC base C (.block id b) Q e H = wpC base C b (Post.inBlock id Q) e H := rfl
theorem wpC_exit {id : Nat} : wpC base C (.exit id) Q e H = Q (.exit id) e H := rfl
theorem wpC_ret : wpC base C .ret Q e H = Q .ret e H := rfl
end

/-! ### step by step: nothing is opened before it is known -/
/-- A call, with what comes behind it. -/
abbrev CallS (C : CRel) (g : Nat) (args : List BV) (k : List Nat) (d : Option Nat) (K : Env → BH → Prop) (e : Env) (H : BH) : Prop :=
  ∃ v H1, C g args H v H1 ∧ H.KeepsTys k H1 ∧ K (e.puto d v) H1
section
variable {base : Nat} {C : CRel} {e : Env} {H : BH} {K : Env → BH → Prop} {Q : Env → BH → Prop} {d : Option Nat} {g : Option (Nat × Bool)} {kp : List Nat}
theorem after_some {v : BV} {H1 : BH} : after (some (v, H1)) d K e = K (e.puto d v) H1 := rfl
theorem wpS_mov {x : Opd} : wpStep base C ⟨d, .mov x, g, kp⟩ K e H = after (op1 base 0 (·.ev e) H (.mov x)) d K e := rfl
theorem wpS_pick {c a b : Opd} : wpStep base C ⟨d, .pick c a b, g, kp⟩ K e H = after (op1 base 0 (·.ev e) H (.pick c a b)) d K e := rfl
theorem wpS_build {z : List BV} {ps : List (Nat × Nat × Opd)} : wpStep base C ⟨d, .build z ps, g, kp⟩ K e H = after (op1 base 0 (·.ev e) H (.build z ps)) d K e := rfl
theorem wpS_load {rt n : Option Nat} {a : Opd} : wpStep base C ⟨d, .load rt n a, g, kp⟩ K e H = after (op1 base 0 (·.ev e) H (.load rt n a)) d K e := rfl
theorem wpS_store {rt : Option Nat} {n : Nat} {a v : Opd} : wpStep base C ⟨d, .store rt n a v, g, kp⟩ K e H = after (op1 base 0 (·.ev e) H (.store rt n a v)) d K e := rfl
theorem wpS_nilck {x : Opd} : wpStep base C ⟨d, .nilck x, g, kp⟩ K e H = after (op1 base 0 (·.ev e) H (.nilck x)) d K e := rfl
theorem wpS_bin {op : BinOp} {x y : Opd} : wpStep base C ⟨d, .bin op x y, g, kp⟩ K e H = after (op1 base 0 (·.ev e) H (.bin op x y)) d K e := rfl
theorem wpS_beq {neg : Bool} {x y : Opd} : wpStep base C ⟨d, .beq neg x y, g, kp⟩ K e H = after (op1 base 0 (·.ev e) H (.beq neg x y)) d K e := rfl
theorem wpS_isnil {neg : Bool} {x : Opd} : wpStep base C ⟨d, .isnil neg x, g, kp⟩ K e H = after (op1 base 0 (·.ev e) H (.isnil neg x)) d K e := rfl
theorem wpS_eqs {neg : Bool} {fs : List (Nat × Nat)} {x y : Opd} : wpStep base C ⟨d, .eqs neg fs x y, g, kp⟩ K e H = after (op1 base 0 (·.ev e) H (.eqs neg fs x y)) d K e := rfl
theorem wpS_not {x : Opd} : wpStep base C ⟨d, .not x, g, kp⟩ K e H = after (op1 base 0 (·.ev e) H (.not x)) d K e := rfl
theorem wpS_neg {x : Opd} : wpStep base C ⟨d, .neg x, g, kp⟩ K e H = after (op1 base 0 (·.ev e) H (.neg x)) d K e := rfl
theorem wpS_conv {k : IntKind} {x : Opd} : wpStep base C ⟨d, .conv k x, g, kp⟩ K e H = after (op1 base 0 (·.ev e) H (.conv k x)) d K e := rfl
theorem wpS_lea {o : Nat} {x : Opd} : wpStep base C ⟨d, .lea o x, g, kp⟩ K e H = after (op1 base 0 (·.ev e) H (.lea o x)) d K e := rfl
theorem wpS_fld {o : Nat} {n : Option Nat} {x : Opd} : wpStep base C ⟨d, .fld o n x, g, kp⟩ K e H = after (op1 base 0 (·.ev e) H (.fld o n x)) d K e := rfl
theorem wpS_idx {sz : Nat} {x i : Opd} : wpStep base C ⟨d, .idx sz x i, g, kp⟩ K e H = after (op1 base 0 (·.ev e) H (.idx sz x i)) d K e := rfl
theorem wpS_idxs {x i : Opd} : wpStep base C ⟨d, .idxs x i, g, kp⟩ K e H = after (op1 base 0 (·.ev e) H (.idxs x i)) d K e := rfl
theorem wpS_slice {sz : Nat} {x : Opd} {lo hi : Option Opd} : wpStep base C ⟨d, .slice sz x lo hi, g, kp⟩ K e H = after (op1 base 0 (·.ev e) H (.slice sz x lo hi)) d K e := rfl
theorem wpS_sslice {x : Opd} {lo hi : Option Opd} : wpStep base C ⟨d, .sslice x lo hi, g, kp⟩ K e H = after (op1 base 0 (·.ev e) H (.sslice x lo hi)) d K e := rfl
theorem wpS_mkfn {f : Nat} {cs : List Opd} : wpStep base C ⟨d, .mkfn f cs, g, kp⟩ K e H = after (op1 base 0 (·.ev e) H (.mkfn f cs)) d K e := rfl
theorem wpS_mset {kd : Nat} {m k v : Opd} : wpStep base C ⟨d, .mset kd m k v, g, kp⟩ K e H = after (op1 base 0 (·.ev e) H (.mset kd m k v)) d K e := rfl
theorem wpS_look {kd : Nat} {ok : Bool} {z : BV} {m k : Opd} : wpStep base C ⟨d, .look kd ok z m k, g, kp⟩ K e H = after (op1 base 0 (·.ev e) H (.look kd ok z m k)) d K e := rfl
theorem wpS_ext {i : Nat} {x : Opd} : wpStep base C ⟨d, .ext i x, g, kp⟩ K e H = after (op1 base 0 (·.ev e) H (.ext i x)) d K e := rfl
theorem wpS_len {kd : Nat} {x : Opd} : wpStep base C ⟨d, .len kd x, g, kp⟩ K e H = after (op1 base 0 (·.ev e) H (.len kd x)) d K e := rfl
theorem wpS_new {ty : Nat} {z : List BV} : wpStep base C ⟨d, .new ty z, g, kp⟩ K e H = ∀ nb, base ≤ nb → H.row nb = .fresh → after (op1 base nb (·.ev e) H (.new ty z)) d K e := rfl
theorem wpS_box {ty : Nat} {x : Opd} : wpStep base C ⟨d, .box ty x, g, kp⟩ K e H = ∀ nb, base ≤ nb → H.row nb = .fresh → after (op1 base nb (·.ev e) H (.box ty x)) d K e := rfl
theorem wpS_mk {ty n : Nat} {z : List BV} {ps : List (Nat × Nat × Opd)} : wpStep base C ⟨d, .mk ty n z ps, g, kp⟩ K e H = ∀ nb, base ≤ nb → H.row nb = .fresh → after (op1 base nb (·.ev e) H (.mk ty n z ps)) d K e := rfl
theorem wpS_mkmap  : wpStep base C ⟨d, .mkmap, g, kp⟩ K e H = ∀ nb, base ≤ nb → H.row nb = .fresh → after (op1 base nb (·.ev e) H (.mkmap)) d K e := rfl
theorem wpS_mksl {ty bytes : Nat} {zero : List BV} {len cap : Opd} : wpStep base C ⟨d, .mksl ty bytes zero len cap, g, kp⟩ K e H = ∀ nb, base ≤ nb → H.row nb = .fresh → after (op1 base nb (·.ev e) H (.mksl ty bytes zero len cap)) d K e := rfl
theorem wpS_app {ty sz bytes : Nat} {x y : Opd} : wpStep base C ⟨d, .app ty sz bytes x y, g, kp⟩ K e H = ∀ nb, base ≤ nb → H.row nb = .fresh → after (op1 base nb (·.ev e) H (.app ty sz bytes x y)) d K e := rfl
theorem wpS_fn {n : Nat} {caps : List BV} {xs : List Opd} : wpStep base C ⟨d, .call (.c (.fn n caps)) xs, g, kp⟩ K e H = CallS C n (xs.map (·.ev e) ++ caps) kp d K e H := rfl
theorem wpS_call {f : Opd} {xs : List Opd} {n : Nat} {caps : List BV} (h : f.ev e = .fn n caps) : wpStep base C ⟨d, .call f xs, g, kp⟩ K e H = CallS C n (xs.map (·.ev e) ++ caps) kp d K e H := by
  unfold wpStep
  simp only [h]
theorem wpO_nil : wpO base C [] Q e H = Q e H := rfl
variable {op : BOp} {r : List BOper} {t : Nat}
theorem wpO_n : wpO base C (⟨d, op, none, kp⟩ :: r) Q e H = wpStep base C ⟨d, op, none, kp⟩ (wpO base C r Q) e H := rfl
theorem wpO_tt (h : e t = .bool true) : wpO base C (⟨d, op, some (t, true), kp⟩ :: r) Q e H = wpStep base C ⟨d, op, some (t, true), kp⟩ (wpO base C r Q) e H := by
  simp [wpO, wantB, h]
theorem wpO_ff (h : e t = .bool false) : wpO base C (⟨d, op, some (t, false), kp⟩ :: r) Q e H = wpStep base C ⟨d, op, some (t, false), kp⟩ (wpO base C r Q) e H := by
  simp [wpO, wantB, h]
theorem wpO_tf (h : e t = .bool false) : wpO base C (⟨d, op, some (t, true), kp⟩ :: r) Q e H = wpO base C r Q (e.puto d (.tup [])) H := by
  simp [wpO, wantB, h]
theorem wpO_ft (h : e t = .bool true) : wpO base C (⟨d, op, some (t, false), kp⟩ :: r) Q e H = wpO base C r Q (e.puto d (.tup [])) H := by
  simp [wpO, wantB, h]
theorem wpO_u {b : Bool} (h : e t = .tup []) : wpO base C (⟨d, op, some (t, b), kp⟩ :: r) Q e H = wpO base C r Q (e.puto d (.tup [])) H := by
  simp [wpO, wantB, h]
theorem wpC_true {c : Opd} {a b : BCode} {Q : Post} (h : c.ev e = .bool true) : wpC base C (.cond c a b) Q e H = wpC base C a Q e H := by
  rw [wpC, h]
theorem wpC_false {c : Opd} {a b : BCode} {Q : Post} (h : c.ev e = .bool false) : wpC base C (.cond c a b) Q e H = wpC base C b Q e H := by
  rw [wpC, h]
end

theorem put_eq {e : Env} {t : Nat} {v : BV} : (e.put t v) t = v := by simp [Env.put]
theorem put_ne {e : Env} {s t : Nat} {v : BV} (h : s ≠ t) : (e.put t v) s = e s := by simp [Env.put, h]
theorem puto_some {e : Env} {t : Nat} {v : BV} : e.puto (some t) v = e.put t v := by unfold Env.puto; rfl
theorem puto_none {e : Env} {v : BV} : e.puto none v = e := by unfold Env.puto; rfl

theorem make_fresh {base nb : Nat} {H : BH} {s : BSt} (h1 : H.row nb = .fresh) (h2 : base ≤ nb) : H.make base nb s = some (H.set nb s) := make_of h1 h2

/-- A function ends with this value and this memory. -/
theorem runs_of {Γ : Ctx} {f : Nat} {fn : BFun} {args : List BV} {H : BH} {v : BV} {H' : BH} (hf : Γ.fn f = some fn)
    (h : wpC Γ.base (Runs Γ) fn.body (fun x e' K => (x = .normal ∨ x = .ret) ∧ resOf fn.results e' K = some v ∧ K = H') (argEnv args) H) : Runs Γ f args H v H' := by
  obtain ⟨u, K, h1, rfl, rfl⟩ := call_of_wp (R := fun u K => u = v ∧ K = H') hf (wpC_mono (fun x e K ⟨a, b, c⟩ => ⟨a, _, b, rfl, c⟩) h)
  exact h1

/-- A loop that counts. -/
theorem wpC_count {base : Nat} {C : CRel} {b : BCode} {Q : Post} (n : Nat) (I : Nat → Env → BH → Prop) {i0 : Nat} {e : Env} {H : BH} (h0 : I i0 e H) (hi : i0 ≤ n)
    (round : ∀ i e H, i ≤ n → I i e H → wpC base C b (Post.then (fun e' H' => i < n ∧ I (i + 1) e' H') Q) e H) : wpC base C (.loop b) Q e H := by
  show ∃ x e' H', ExC base C (.loop b) e H x e' H' ∧ Q x e' H'
  have key : ∀ k i e H, n - i = k → i ≤ n → I i e H → ∃ x e' H', ExC base C (.loop b) e H x e' H' ∧ Q x e' H' := by
    intro k
    induction k with
    | zero =>
      intro i e H hk hle hI
      obtain ⟨x, e1, H1, hx, hQ⟩ := wpC_elim (round i e H hle hI)
      cases x with
      | normal => have := hQ.1; omega
      | exit j => exact ⟨_, e1, H1, .loopx hx (by simp), hQ⟩
      | ret => exact ⟨_, e1, H1, .loopx hx (by simp), hQ⟩
    | succ k ih =>
      intro i e H hk hle hI
      obtain ⟨x, e1, H1, hx, hQ⟩ := wpC_elim (round i e H hle hI)
      cases x with
      | normal =>
        obtain ⟨hlt, hI1⟩ := hQ
        obtain ⟨x, e2, H2, hy, hQ⟩ := ih (i + 1) e1 H1 (by omega) (by omega) hI1
        exact ⟨x, e2, H2, .loopn hx hy, hQ⟩
      | exit j => exact ⟨_, e1, H1, .loopx hx (by simp), hQ⟩
      | ret => exact ⟨_, e1, H1, .loopx hx (by simp), hQ⟩
  exact key _ i0 e H rfl hi h0

theorem one_int {k : IntKind} {n : Int} : BV.one (.int k n) = true := rfl
theorem cells_int {k : IntKind} {n : Int} : BV.cells (.int k n) = [(.int k n)] := rfl
theorem one_bool {b : Bool} : BV.one (.bool b) = true := rfl
theorem cells_bool {b : Bool} : BV.cells (.bool b) = [(.bool b)] := rfl
theorem one_str {s : ByteArray} : BV.one (.str s) = true := rfl
theorem cells_str {s : ByteArray} : BV.cells (.str s) = [(.str s)] := rfl
theorem one_nilp  : BV.one .nilp = true := rfl
theorem cells_nilp  : BV.cells .nilp = [.nilp] := rfl
theorem one_ptr {b o : Nat} : BV.one (.ptr b o) = true := rfl
theorem cells_ptr {b o : Nat} : BV.cells (.ptr b o) = [(.ptr b o)] := rfl
theorem one_nils  : BV.one .nils = true := rfl
theorem cells_nils  : BV.cells .nils = [.nils] := rfl
theorem one_sl {b o n : Nat} : BV.one (.sl b o n) = true := rfl
theorem cells_sl {b o n : Nat} : BV.cells (.sl b o n) = [(.sl b o n)] := rfl
theorem one_sle  : BV.one .sle = true := rfl
theorem cells_sle  : BV.cells .sle = [.sle] := rfl
theorem one_nilm  : BV.one .nilm = true := rfl
theorem cells_nilm  : BV.cells .nilm = [.nilm] := rfl
theorem one_mp {b : Nat} : BV.one (.mp b) = true := rfl
theorem cells_mp {b : Nat} : BV.cells (.mp b) = [(.mp b)] := rfl
theorem one_nilf  : BV.one .nilf = true := rfl
theorem cells_nilf  : BV.cells .nilf = [.nilf] := rfl
theorem one_fn {f : Nat} {cs : List BV} : BV.one (.fn f cs) = true := rfl
theorem cells_fn {f : Nat} {cs : List BV} : BV.cells (.fn f cs) = [(.fn f cs)] := rfl
theorem one_nili  : BV.one .nili = true := rfl
theorem cells_nili  : BV.cells .nili = [.nili] := rfl
theorem cells_agg {cs : List BV} : BV.cells (.agg cs) = cs := rfl
theorem cells_one {v : BV} (h : v.one = true) : v.cells = [v] := by
  cases v <;> first | rfl | (cases h)
theorem one_of_isSl {v : BV} (h : v.isSl = true) : v.one = true := by
  cases v <;> first | rfl | (cases h)

theorem isSl_sl {b o n : Nat} : BV.isSl (.sl b o n) = true := rfl
theorem slen_sl {b o n : Nat} : BV.slen (.sl b o n) = n := rfl
theorem sat_sl {b o n i sz : Nat} : BV.sat (.sl b o n) i sz = .ptr b (o + i * sz) := rfl

theorem w64 {n : Int} (h1 : -9223372036854775808 ≤ n) (h2 : n ≤ 9223372036854775807) : IntKind.i64.wrap n = n := by
  rw [IntKind.wrap_i64]
  omega

/-! ### slices, as lists of elements -/
/-- The slice has these elements, each of 'sz' cells. -/
structure Sls (H : BH) (ty sz : Nat) (v : BV) (xs : List (List BV)) : Prop where
  isSl : v.isSl = true
  len : v.slen = xs.length
  get : ∀ (i : Nat) (x : List BV), xs[i]? = some x → ∃ b o cs, v.sat i sz = .ptr b o ∧ H.row b = .arr ty cs ∧ o + sz ≤ cs.length ∧ (cs.drop o).take sz = x

theorem Sls.rd {H : BH} {ty sz : Nat} {v : BV} {xs : List (List BV)} (h : Sls H ty sz v xs) {i : Nat} {x : List BV} (hi : xs[i]? = some x) {rt : Option Nat} (hrt : rtOk rt ty = true) : H.rd rt (some sz) (v.sat i sz) = some (.agg x) := by
  obtain ⟨b, o, cs, h1, h2, h3, h4⟩ := h.get i x hi
  simp [BH.rd, h1, h2, hrt, h3, asm, h4]
theorem Sls.rd1 {H : BH} {ty : Nat} {v : BV} {xs : List (List BV)} (h : Sls H ty 1 v xs) {i : Nat} {c : BV} (hi : xs[i]? = some [c]) {rt : Option Nat} (hrt : rtOk rt ty = true) : H.rd rt none (v.sat i 1) = some c := by
  obtain ⟨b, o, cs, h1, h2, h3, h4⟩ := h.get i _ hi
  simp [BH.rd, h1, h2, hrt, h3, asm, h4]
/-- The rows of a slice. -/
def BV.row? : BV → Option Nat
  | .sl b _ _ => some b
  | .ptr b _ => some b
  | _ => none
theorem Sls.stay {H K : BH} {ty sz : Nat} {v : BV} {xs : List (List BV)} (h : Sls H ty sz v xs) (hk : ∀ b, v.row? = some b → K.row b = H.row b) : Sls K ty sz v xs := by
  refine ⟨h.isSl, h.len, fun i x hi => ?_⟩
  obtain ⟨b, o, cs, h1, h2, h3, h4⟩ := h.get i x hi
  refine ⟨b, o, cs, h1, ?_, h3, h4⟩
  rw [hk b ?_]
  · exact h2
  · unfold BV.sat at h1
    split at h1
    · cases h1; rfl
    · cases h1

theorem Sls.keeps {H K : BH} {ty sz : Nat} {v : BV} {xs : List (List BV)} (h : Sls H ty sz v xs) (hk : H.Keeps K) : Sls K ty sz v xs := by
  refine ⟨h.isSl, h.len, fun i x hi => ?_⟩
  obtain ⟨b, o, cs, h1, h2, h3, h4⟩ := h.get i x hi
  exact ⟨b, o, cs, h1, by rw [hk b (by rw [h2]; simp)]; exact h2, h3, h4⟩
theorem Sls.fld {H : BH} {ty sz : Nat} {v : BV} {xs : List (List BV)} (h : Sls H ty sz v xs) {i : Nat} {x : List BV} (hi : xs[i]? = some x) :
    ∃ b o, v.sat i sz = .ptr b o ∧ ∀ (k : Nat) (c : BV), x[k]? = some c → H.rd none none (.ptr b (o + k)) = some c := by
  obtain ⟨b, o, cs, h1, h2, h3, h4⟩ := h.get i x hi
  refine ⟨b, o, h1, fun k c hk => ?_⟩
  have hlt : k < x.length := (List.getElem?_eq_some_iff.1 hk).1
  have hx : x.length ≤ sz := by rw [← h4]; simp; omega
  rw [← h4, List.getElem?_take_of_lt (by omega), List.getElem?_drop] at hk
  have hlt2 : o + k < cs.length := by omega
  have : (cs.drop (o + k)).head? = some c := by rw [List.head?_drop]; exact hk
  simp [BH.rd, h2, rtOk, show o + k + 1 ≤ cs.length by omega, asm, List.head?_take, this]

theorem rd_keeps {H K : BH} (hk : H.Keeps K) {rt n : Option Nat} {p v : BV} (h : H.rd rt n p = some v) : K.rd rt n p = some v := by
  unfold BH.rd at h ⊢
  split at h
  · rename_i b o
    split at h
    · rename_i ty cs hb
      rw [hk b (by rw [hb]; simp), hb]
      exact h
    · cases h
  · cases h
theorem BH.Keeps.set {H K : BH} (hk : H.Keeps K) {nb : Nat} (hf : H.row nb = .fresh) (s : BSt) : H.Keeps (K.set nb s) := fun b hb => by
  rw [BH.row_set_ne _ _ (by rintro rfl; exact hb hf)]
  exact hk b hb
theorem fresh_set {H : BH} {nb c : Nat} {s : BSt} (hs : s ≠ .fresh) (h : (H.set nb s).row c = .fresh) : c ≠ nb ∧ H.row c = .fresh := by
  by_cases e : c = nb
  · subst e; rw [BH.row_set_eq] at h; exact absurd h hs
  · rw [BH.row_set_ne _ _ e] at h; exact ⟨e, h⟩
/-- What is fresh now was fresh before. -/
theorem BH.Keeps.fresh {H K : BH} (hk : H.Keeps K) {b : Nat} (h : K.row b = .fresh) : H.row b = .fresh := by
  cases hb : H.row b with
  | fresh => rfl
  | _ => have := hk b (by rw [hb]; simp); rw [h, hb] at this; cases this

theorem flatten_len {sz : Nat} : ∀ {xs : List (List BV)}, (∀ x ∈ xs, x.length = sz) → xs.flatten.length = xs.length * sz
  | [], _ => by simp
  | x :: xs, h => by
    rw [List.flatten_cons, List.length_append, h x List.mem_cons_self, flatten_len fun y hy => h y (List.mem_cons_of_mem _ hy), List.length_cons, Nat.succ_mul, Nat.add_comm]
theorem flatten_chunk {sz : Nat} : ∀ {xs : List (List BV)}, (∀ x ∈ xs, x.length = sz) → ∀ {i : Nat} {x : List BV}, xs[i]? = some x → (xs.flatten.drop (i * sz)).take sz = x ∧ i * sz + sz ≤ xs.flatten.length
  | [], _, i, x, h => by simp at h
  | y :: xs, hl, 0, x, h => by
    simp at h
    subst h
    have := hl y List.mem_cons_self
    subst this
    simp
  | y :: xs, hl, i + 1, x, h => by
    have hy := hl y List.mem_cons_self
    obtain ⟨h1, h2⟩ := flatten_chunk (fun z hz => hl z (List.mem_cons_of_mem _ hz)) (i := i) (x := x) (by simpa using h)
    have e : (i + 1) * sz = y.length + i * sz := by rw [Nat.succ_mul, hy, Nat.add_comm]
    refine ⟨?_, ?_⟩
    · rw [List.flatten_cons, e, List.drop_append]
      simp
      rw [List.drop_eq_nil_of_le (by omega)]
      simpa using h1
    · rw [List.flatten_cons, List.length_append, e]
      omega
theorem flatten_set {sz : Nat} {y : List BV} : ∀ {xs : List (List BV)}, (∀ x ∈ xs, x.length = sz) → y.length = sz → ∀ {i : Nat}, i < xs.length → xs.flatten.take (i * sz) ++ y ++ xs.flatten.drop (i * sz + sz) = (xs.set i y).flatten
  | [], _, _, i, h => by simp at h
  | x :: xs, hl, hy, 0, h => by
    have := hl x List.mem_cons_self
    simp [List.drop_append, this]
  | x :: xs, hl, hy, i + 1, h => by
    have hx := hl x List.mem_cons_self
    have ih := flatten_set (fun z hz => hl z (List.mem_cons_of_mem _ hz)) hy (i := i) (by simpa using h)
    have e : (i + 1) * sz = x.length + i * sz := by rw [Nat.succ_mul, hx, Nat.add_comm]
    rw [List.set_cons_succ, List.flatten_cons, List.flatten_cons, ← ih, e, List.take_append, List.drop_append]
    simp
    rw [List.take_of_length_le (by omega), List.drop_eq_nil_of_le (by omega)]
    have e2 : x.length + i * sz + sz - x.length = i * sz + sz := by omega
    rw [e2]
    simp

/-- A slice of one's own: a whole row. -/
structure OwnS (base : Nat) (H : BH) (ty sz : Nat) (v : BV) (xs : List (List BV)) (b : Nat) : Prop where
  val : v = .sl b 0 xs.length
  row : H.row b = .arr ty xs.flatten
  own : base ≤ b
  all : ∀ x ∈ xs, x.length = sz
theorem OwnS.sls {base : Nat} {H : BH} {ty sz : Nat} {v : BV} {xs : List (List BV)} {b : Nat} (h : OwnS base H ty sz v xs b) : Sls H ty sz v xs := by
  obtain ⟨rfl, h2, h3, h4⟩ := h
  refine ⟨rfl, rfl, fun i x hi => ?_⟩
  obtain ⟨c1, c2⟩ := flatten_chunk h4 hi
  exact ⟨b, 0 + i * sz, _, rfl, h2, by omega, by rw [Nat.zero_add]; exact c1⟩
theorem OwnS.isSl {base : Nat} {H : BH} {ty sz : Nat} {v : BV} {xs : List (List BV)} {b : Nat} (h : OwnS base H ty sz v xs b) : v.isSl = true := by rw [h.val]; rfl
theorem OwnS.stay {base : Nat} {H K : BH} {ty sz : Nat} {v : BV} {xs : List (List BV)} {b : Nat} (h : OwnS base H ty sz v xs b) (hk : K.row b = H.row b) : OwnS base K ty sz v xs b :=
  ⟨h.val, by rw [hk]; exact h.row, h.own, h.all⟩
theorem OwnS.keeps {base : Nat} {H K : BH} {ty sz : Nat} {v : BV} {xs : List (List BV)} {b : Nat} (h : OwnS base H ty sz v xs b) (hk : H.Keeps K) : OwnS base K ty sz v xs b :=
  h.stay (hk b (by rw [h.row]; simp))

/-- A row that is being filled. -/
def partOf {α : Type} (enc : α → List BV) (z : List BV) (xs : List α) (i : Nat) : List (List BV) := (xs.take i).map enc ++ List.replicate (xs.length - i) z
theorem part_len {α : Type} {enc : α → List BV} {z : List BV} {xs : List α} {i : Nat} (h : i ≤ xs.length) : (partOf enc z xs i).length = xs.length := by
  simp [partOf]
  omega
theorem part_set {α : Type} {enc : α → List BV} {z : List BV} {xs : List α} {i : Nat} (h : i < xs.length) : (partOf enc z xs i).set i (enc xs[i]) = partOf enc z xs (i + 1) := by
  have h1 : (xs.take i).length = i := by simp; omega
  have h2 : xs.length - i = (xs.length - (i + 1)) + 1 := by omega
  unfold partOf
  rw [List.set_append_right _ _ (by simp; omega), List.length_map, h1, Nat.sub_self, h2, List.replicate_succ, List.set_cons_zero, List.take_add_one, List.getElem?_eq_getElem h]
  simp only [Option.toList_some, List.map_append, List.map_cons, List.map_nil, List.append_assoc, List.singleton_append]
theorem part_all {α : Type} {enc : α → List BV} {z : List BV} {xs : List α} {i sz : Nat} (h1 : ∀ x, (enc x).length = sz) (h2 : z.length = sz) : ∀ x ∈ partOf enc z xs i, x.length = sz := by
  intro x hx
  simp only [partOf, List.mem_append, List.mem_map, List.mem_replicate] at hx
  rcases hx with ⟨y, _, rfl⟩ | ⟨_, rfl⟩
  · exact h1 y
  · exact h2
theorem part_zero {α : Type} {enc : α → List BV} {z : List BV} {xs : List α} : partOf enc z xs 0 = List.replicate xs.length z := by simp [partOf]
theorem part_end {α : Type} {enc : α → List BV} {z : List BV} {xs : List α} {i : Nat} (h : xs.length ≤ i) : partOf enc z xs i = xs.map enc := by
  simp [partOf, List.take_of_length_le h, show xs.length - i = 0 by omega]

/-- The function gives this value, and leaves what lives as it is. -/
def Gives (Γ : Ctx) (f : Nat) (args : List BV) (H : BH) (v : BV) : Prop := ∃ H', Runs Γ f args H v H' ∧ H.Keeps H'
theorem gives_of {Γ : Ctx} {f : Nat} {fn : BFun} {args : List BV} {H : BH} {v : BV} (hf : Γ.fn f = some fn)
    (h : wpC Γ.base (Runs Γ) fn.body (fun x e' K => (x = .normal ∨ x = .ret) ∧ resOf fn.results e' K = some v ∧ H.Keeps K) (argEnv args) H) : Gives Γ f args H v := by
  obtain ⟨u, K, h1, rfl, h2⟩ := call_of_wp (R := fun u K => u = v ∧ H.Keeps K) hf (wpC_mono (fun x e K ⟨a, b, c⟩ => ⟨a, _, b, rfl, c⟩) h)
  exact ⟨K, h1, h2⟩
theorem Runs.gives {Γ : Ctx} {f : Nat} {args : List BV} {H : BH} {v : BV} (h : Runs Γ f args H v H) : Gives Γ f args H v := ⟨H, h, BH.Keeps.refl H⟩

end Go.B
