/-
What the machine B's values and rows stand for in the model's world.
-/
import Derived.Test.YtkgjipjkffjlhaaDoorB3
import Derived.Laws.AppendOwn
import Derived.Laws.StructEq
namespace Go.B
set_option linter.unusedVariables false
set_option linter.unusedSimpArgs false

structure Row where
  blk : Nat
  sz : Nat
  room : Nat
abbrev Tie := Nat → Option Row
def Tie.le (X Y : Tie) : Prop := ∀ b r, X b = some r → Y b = some r
theorem Tie.le_refl (X : Tie) : X.le X := fun _ _ h => h
theorem Tie.le_trans {X Y Z : Tie} (h : X.le Y) (k : Y.le Z) : X.le Z := fun b r hb => k b r (h b r hb)
def Tie.put (X : Tie) (b : Nat) (r : Row) : Tie := fun c => if c = b then some r else X c
theorem Tie.put_self (X : Tie) (b : Nat) (r : Row) : X.put b r b = some r := by simp [Tie.put]
theorem Tie.le_put {X : Tie} {b : Nat} (r : Row) (h : X b = none) : X.le (X.put b r) := fun c s hc => by
  have : c ≠ b := by rintro rfl; rw [h] at hc; cases hc
  simp [Tie.put, this, hc]

mutual
def VR (base : Nat) (X : Tie) : BV → Value → Prop
  | .any, _ => True
  | .int k n, v => v = .int k n
  | .bool b, v => v = .bool b
  | .str s, v => v = .string s
  | .nilp, v => v = .pointer none
  | .ptr b o, v => ∃ r, X b = some r ∧ v = .pointer (some ⟨r.blk, o, none⟩)
  | .nils, v => v = .slice none 0 0
  | .sl b o n, v => ∃ r cap, X b = some r ∧ v = .slice (some ⟨r.blk, o, none⟩) n cap ∧ n ≤ cap ∧ (base ≤ b → o = 0 → cap * r.sz = r.room ∧ cap ≤ maxLen)
  | .sle, v => ∃ a cap, v = .slice a 0 cap ∧ (a = none → cap = 0)
  | .nilm, v => v = .map none
  | .mp b, v => ∃ r, X b = some r ∧ v = .map (some r.blk)
  | .nilf, v => v = .nilFunc
  | .fn f cs, v => ∃ cs', v = .func (.func f) #[] cs' ∧ VRL base X cs cs'.toList
  | .nili, v => v = .nilIface
  | .iface t u, v => ∃ v', v = .iface t v' ∧ VR base X u v'
  | .agg cs, v => ∃ cs', v = .agg cs' ∧ VRL base X cs cs'.toList
  | .tup cs, v => ∃ cs', v = .tuple cs' ∧ VRL base X cs cs'.toList
def VRL (base : Nat) (X : Tie) : List BV → List Value → Prop
  | [], vs => vs = []
  | c :: cs, vs => ∃ v r, vs = v :: r ∧ VR base X c v ∧ VRL base X cs r
end

mutual
theorem VR.mono {base : Nat} {X Y : Tie} (h : X.le Y) : ∀ {c : BV} {v : Value}, VR base X c v → VR base Y c v
  | .any, _, _ => trivial
  | .int _ _, _, k => k
  | .bool _, _, k => k
  | .str _, _, k => k
  | .nilp, _, k => k
  | .ptr b o, _, ⟨r, k, e⟩ => ⟨r, h _ _ k, e⟩
  | .nils, _, k => k
  | .sl b o n, _, ⟨r, cap, k, e⟩ => ⟨r, cap, h _ _ k, e⟩
  | .sle, _, k => k
  | .nilm, _, k => k
  | .mp b, _, ⟨r, k, e⟩ => ⟨r, h _ _ k, e⟩
  | .nilf, _, k => k
  | .fn f cs, _, ⟨cs', e, k⟩ => ⟨cs', e, VRL.mono h k⟩
  | .nili, _, k => k
  | .iface t u, _, ⟨v', e, k⟩ => ⟨v', e, VR.mono h k⟩
  | .agg cs, _, ⟨cs', e, k⟩ => ⟨cs', e, VRL.mono h k⟩
  | .tup cs, _, ⟨cs', e, k⟩ => ⟨cs', e, VRL.mono h k⟩
theorem VRL.mono {base : Nat} {X Y : Tie} (h : X.le Y) : ∀ {cs : List BV} {vs : List Value}, VRL base X cs vs → VRL base Y cs vs
  | [], _, k => k
  | c :: cs, _, ⟨v, r, e, k, l⟩ => ⟨v, r, e, VR.mono h k, VRL.mono h l⟩
end

section
variable {base : Nat} {X : Tie}
theorem VRL.len : ∀ {cs : List BV} {vs : List Value}, VRL base X cs vs → cs.length = vs.length
  | [], _, rfl => rfl
  | c :: cs, _, ⟨v, r, rfl, _, l⟩ => by simp [l.len]
theorem VRL.get : ∀ {cs : List BV} {vs : List Value}, VRL base X cs vs → ∀ (i : Nat) (c : BV), cs[i]? = some c → ∃ v, vs[i]? = some v ∧ VR base X c v
  | [], _, rfl, i, c, h => by simp at h
  | c :: cs, _, ⟨v, r, rfl, k, l⟩, 0, d, h => by simp at h; subst h; exact ⟨v, rfl, k⟩
  | c :: cs, _, ⟨v, r, rfl, k, l⟩, i + 1, d, h => by simpa using l.get i d (by simpa using h)
theorem VRL.of : ∀ {cs : List BV} {vs : List Value}, cs.length = vs.length → (∀ (i : Nat) (c : BV), cs[i]? = some c → ∃ v, vs[i]? = some v ∧ VR base X c v) → VRL base X cs vs
  | [], [], _, _ => rfl
  | [], _ :: _, h, _ => by simp at h
  | _ :: _, [], h, _ => by simp at h
  | c :: cs, v :: vs, hl, h => by
    obtain ⟨v', hv, k⟩ := h 0 c rfl
    simp at hv
    subst hv
    exact ⟨v, vs, rfl, k, VRL.of (by simpa using hl) fun i d hd => by simpa using h (i + 1) d (by simpa using hd)⟩
theorem VRL.append {cs ds : List BV} {vs us : List Value} (h : VRL base X cs vs) (k : VRL base X ds us) : VRL base X (cs ++ ds) (vs ++ us) := by
  induction cs generalizing vs with
  | nil => obtain rfl := h; exact k
  | cons c cs ih => obtain ⟨v, r, rfl, k1, l⟩ := h; exact ⟨v, r ++ us, rfl, k1, ih l⟩

theorem VR.one {c : BV} {v : Value} (h : VR base X c v) (h1 : c.one = true) : v.oneCell' = true ∧ v.cells.toList = [v] := by
  cases c <;> simp [BV.one] at h1 <;> simp only [VR] at h <;> (try (obtain ⟨_, h⟩ := h)) <;> (try (obtain ⟨_, h⟩ := h)) <;> (try (obtain ⟨_, h⟩ := h)) <;>
    (try (obtain ⟨_, _⟩ := h)) <;> subst_vars <;> simp [Value.oneCell', Value.cells] 
theorem VR.cellsOf {c : BV} {v : Value} (h : VR base X c v) (h1 : c.cells.all BV.one = true) : VRL base X c.cells v.cells.toList ∧ v.cells.all (·.oneCell') = true := by
  cases c with
  | agg cs =>
    obtain ⟨cs', rfl, k⟩ := h
    refine ⟨k, ?_⟩
    rw [Array.all_eq_true_iff_forall_mem]
    intro x hx
    obtain ⟨i, hi⟩ := List.getElem?_of_mem (Array.mem_toList_iff.2 hx)
    have hlt : i < cs.length := by
      rw [k.len]
      exact (List.getElem?_eq_some_iff.1 hi).1
    obtain ⟨v, hv, kv⟩ := k.get i _ (List.getElem?_eq_getElem hlt)
    have : v = x := by
      change cs'.toList[i]? = some x at hi
      rw [hi] at hv; exact (Option.some.inj hv).symm
    subst this
    exact (kv.one ((List.all_eq_true.1 h1) _ (List.getElem_mem hlt))).1
  | any => simp [BV.cells, BV.one] at h1
  | tup cs => simp [BV.cells, BV.one] at h1
  | _ =>
    have h2 := VR.one h (by simpa [BV.cells] using h1)
    rw [h2.2]
    refine ⟨⟨v, [], rfl, h, rfl⟩, ?_⟩
    rw [← Array.all_toList, h2.2]
    simp [h2.1]
end

/-- A map's entries. -/
def ER (base : Nat) (X : Tie) : List (BV × BV) → List MapEntry → Prop
  | [], es => es = []
  | (k, v) :: r, es => ∃ e es', es = e :: es' ∧ VR base X k e.key ∧ VR base X v e.val ∧ ER base X r es'
theorem ER.mono {base : Nat} {X Y : Tie} (h : X.le Y) : ∀ {ms : List (BV × BV)} {es : List MapEntry}, ER base X ms es → ER base Y ms es
  | [], _, k => k
  | (_, _) :: _, _, ⟨e, es', he, k1, k2, l⟩ => ⟨e, es', he, k1.mono h, k2.mono h, ER.mono h l⟩

def BSt.live : BSt → Bool
  | .arr _ _ | .mp _ => true
  | _ => false

/-- What one row stands for. -/
def RR (P : Program) (base : Nat) (low : Nat) (X : Tie) (b : Nat) (w : World) : BSt → Prop
  | .arr ty cs => ∃ r cur fz, X b = some r ∧ w.heap[r.blk]? = some (.cells cur ty fz) ∧ cur.size = r.room ∧ r.sz = P.cellsOf ty ∧
      (∀ (i : Nat) (c : BV), cs[i]? = some c → ∃ v, cur[i]? = some v ∧ VR base X c v) ∧ (base ≤ b → low ≤ r.blk ∧ fz = (0, 0))
  | .mp es => ∃ r es' clk, X b = some r ∧ w.heap[r.blk]? = some (.map es' clk) ∧ ER base X es es'.toList ∧ (base ≤ b → low ≤ r.blk)
  | .dead => ∃ r, X b = some r
  | .fresh => X b = none

structure HR (P : Program) (base : Nat) (w0 : World) (X : Tie) (H : BH) (w : World) : Prop where
  row : ∀ b, RR P base w0.heap.size X b w (H.row b)
  inj : ∀ b c r s, (H.row b).live = true → (H.row c).live = true → X b = some r → X c = some s → r.blk = s.blk → b = c
  ext : w0.Extends w

theorem RR.lives {P : Program} {base low : Nat} {X : Tie} {b : Nat} {w : World} {s : BSt} (h : RR P base low X b w s) (hl : s.live = true) : ∃ r, X b = some r ∧ r.blk < w.heap.size := by
  cases s with
  | arr ty cs =>
    obtain ⟨r, cur, fz, hx, hh, _⟩ := h
    exact ⟨r, hx, (Array.getElem?_eq_some_iff.1 hh).1⟩
  | mp es =>
    obtain ⟨r, es', clk, hx, hh, _⟩ := h
    exact ⟨r, hx, (Array.getElem?_eq_some_iff.1 hh).1⟩
  | dead => simp [BSt.live] at hl
  | fresh => simp [BSt.live] at hl

/-- A row stays what it stands for where its block stays and the tie grows. -/
theorem RR.stay {P : Program} {base low : Nat} {X Y : Tie} {b : Nat} {w w' : World} {s : BSt} (h : RR P base low X b w s) (hle : X.le Y) (hf : s = .fresh → Y b = none)
    (hb : s.live = true → ∀ r, X b = some r → w'.heap[r.blk]? = w.heap[r.blk]?) : RR P base low Y b w' s := by
  cases s with
  | arr ty cs =>
    obtain ⟨r, cur, fz, hx, hh, h1, h2, h3, h4⟩ := h
    exact ⟨r, cur, fz, hle _ _ hx, by rw [hb rfl r hx]; exact hh, h1, h2, fun i c hc => let ⟨v, hv, k⟩ := h3 i c hc; ⟨v, hv, k.mono hle⟩, h4⟩
  | mp es =>
    obtain ⟨r, es', clk, hx, hh, h1, h2⟩ := h
    exact ⟨r, es', clk, hle _ _ hx, by rw [hb rfl r hx]; exact hh, h1.mono hle, h2⟩
  | dead => obtain ⟨r, hx⟩ := h; exact ⟨r, hle _ _ hx⟩
  | fresh => exact hf rfl

theorem HR.fresh_none {P : Program} {base : Nat} {w0 w : World} {X : Tie} {H : BH} (h : HR P base w0 X H w) {b : Nat} (hb : H.row b = .fresh) : X b = none := by
  have := h.row b
  rw [hb] at this
  exact this

/-- The same rows in a world with the same blocks and more. -/
theorem HR.grow {P : Program} {base : Nat} {w0 w w' : World} {X : Tie} {H : BH} (h : HR P base w0 X H w) (hx : w0.Extends w') (hb : ∀ k, k < w.heap.size → w'.heap[k]? = w.heap[k]?) : HR P base w0 X H w' where
  row := fun b => (h.row b).stay (Tie.le_refl X) (fun e => h.fresh_none e) fun hl r hr => by
    obtain ⟨r', hx', hlt⟩ := (h.row b).lives hl
    rw [hr] at hx'
    cases hx'
    exact hb _ hlt
  inj := h.inj
  ext := hx

/-- A new row in a new block. -/
theorem HR.make {P : Program} {base nb : Nat} {w0 w : World} {X : Tie} {H : BH} {s : BSt} {r : Row} {o : Obj} (h : HR P base w0 X H w) (hf : H.row nb = .fresh) (hr : r.blk = w.heap.size)
    (hs : RR P base w0.heap.size (X.put nb r) nb (w.alloc o) s) : HR P base w0 (X.put nb r) (H.set nb s) (w.alloc o) where
  row := fun b => by
    rw [BH.row_set]
    split
    · rename_i e; subst e; exact hs
    · rename_i e
      refine (h.row b).stay (Tie.le_put r (h.fresh_none hf)) (fun e' => ?_) fun hl q hq => ?_
      · simp [Tie.put, e, h.fresh_none e']
      · obtain ⟨r', hx', hlt⟩ := (h.row b).lives hl
        rw [hq] at hx'
        cases hx'
        exact heap_alloc_old w o _ hlt
  inj := fun b c p q hb hc hp hq hpq => by
    rw [BH.row_set] at hb hc
    by_cases eb : b = nb <;> by_cases ec : c = nb
    · rw [eb, ec]
    · simp only [Tie.put, eb, ec, if_true, if_false] at hp hq hc
      cases hp
      obtain ⟨q', hx', hlt⟩ := (h.row c).lives hc
      rw [hq] at hx'
      cases hx'
      omega
    · simp only [Tie.put, eb, ec, if_true, if_false] at hp hq hb
      cases hq
      obtain ⟨q', hx', hlt⟩ := (h.row b).lives hb
      rw [hp] at hx'
      cases hx'
      omega
    · simp only [Tie.put, eb, ec, if_false] at hp hq hb hc
      exact h.inj b c p q hb hc hp hq hpq
  ext := h.ext.alloc o

/-- A row's block is written. -/
theorem HR.write {P : Program} {base b : Nat} {w0 w w' : World} {X : Tie} {H : BH} {s : BSt} {r : Row} (h : HR P base w0 X H w) (hl : (H.row b).live = true) (hb : X b = some r) (hext : w0.Extends w')
    (hk : ∀ k, k < w.heap.size → k ≠ r.blk → w'.heap[k]? = w.heap[k]?) (hsl : s.live = true) (hs : RR P base w0.heap.size X b w' s) : HR P base w0 X (H.set b s) w' where
  row := fun c => by
    rw [BH.row_set]
    split
    · rename_i e; subst e; exact hs
    · rename_i e
      refine (h.row c).stay (Tie.le_refl X) (fun e' => h.fresh_none e') fun hl' q hq => ?_
      obtain ⟨r', hx', hlt⟩ := (h.row c).lives hl'
      rw [hq] at hx'
      cases hx'
      exact hk _ hlt fun e' => e (h.inj c b q r hl' hl hq hb e')
  inj := fun c d p q hc hd hp hq hpq => by
    refine h.inj c d p q ?_ ?_ hp hq hpq
    · rw [BH.row_set] at hc
      split at hc
      · rename_i e; rw [e]; exact hl
      · exact hc
    · rw [BH.row_set] at hd
      split at hd
      · rename_i e; rw [e]; exact hl
      · exact hd
  ext := hext

end Go.B
