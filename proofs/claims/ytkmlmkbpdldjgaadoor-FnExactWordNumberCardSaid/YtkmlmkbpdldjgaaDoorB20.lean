/-
The machine B's beginning: the world as it is found.
-/
import Derived.Test.YtkmlmkbpdldjgaaDoorB19
namespace Go.B
set_option linter.unusedVariables false
set_option linter.unusedSimpArgs false

def cellsB (w : World) (b : Nat) : Bool := match w.heap[b]? with
  | some (.cells _ _ _) => true
  | _ => false
/-- A value that is found, as far as it leads into rows of cells. -/
def absV (w : World) : Value → BV
  | .slice none n c => if n = 0 ∧ c = 0 then .nils else .any
  | .slice (some a) n c => if n = 0 then .sle else if a.spot = none ∧ n ≤ c ∧ cellsB w a.block = true then .sl a.block a.off n else .any
  | .pointer (some a) => if a.spot = none ∧ cellsB w a.block = true then .ptr a.block a.off else .any
  | v => toB1 v
def tie0 (P : Program) (w : World) : Tie := fun b => match w.heap[b]? with
  | some (.cells c e _) => some ⟨b, P.cellsOf e, c.size⟩
  | _ => none
def heap0 (w : World) : BH where
  row := fun b => match w.heap[b]? with
    | some (.cells c e _) => .arr e (c.toList.map (absV w))
    | _ => .fresh
  fin := ⟨w.heap.size, fun b hb => by rw [Array.getElem?_eq_none hb]⟩

theorem cellsB_elim {w : World} {b : Nat} (h : cellsB w b = true) : ∃ c e f, w.heap[b]? = some (.cells c e f) ∧ b < w.heap.size := by
  unfold cellsB at h
  split at h
  · rename_i c e f hh
    exact ⟨c, e, f, hh, (Array.getElem?_eq_some_iff.1 hh).1⟩
  · cases h

theorem VR_absV (P : Program) (w : World) (v : Value) : VR w.heap.size (tie0 P w) (absV w v) v := by
  unfold absV
  split
  · split
    · rename_i h
      rw [h.1, h.2]
      rfl
    · exact trivial
  · rename_i a n c
    split
    · rename_i h
      subst h
      exact ⟨some a, c, rfl, by simp⟩
    · split
      · rename_i h
        obtain ⟨cc, e, f, hh, hlt⟩ := cellsB_elim h.2.2
        refine ⟨⟨a.block, P.cellsOf e, cc.size⟩, c, by simp [tie0, hh], ?_, h.2.1, fun hb => by omega⟩
        obtain ⟨b, o, s⟩ := a
        have hs : s = none := h.1
        subst hs
        rfl
      · exact trivial
  · rename_i a
    split
    · rename_i h
      obtain ⟨cc, e, f, hh, hlt⟩ := cellsB_elim h.2
      refine ⟨⟨a.block, P.cellsOf e, cc.size⟩, by simp [tie0, hh], ?_⟩
      obtain ⟨b, o, s⟩ := a
      have hs : s = none := h.1
      subst hs
      rfl
    · exact trivial
  · exact VR_toB1 v

theorem HR.start (P : Program) (w : World) : HR P w.heap.size w (tie0 P w) (heap0 w) w where
  row := fun b => by
    simp only [heap0]
    cases hh : w.heap[b]? with
    | none => simp [RR, tie0, hh]
    | some o =>
      cases o with
      | cells c e f =>
        have hlt := (Array.getElem?_eq_some_iff.1 hh).1
        refine ⟨⟨b, P.cellsOf e, c.size⟩, c, f, by simp [tie0, hh], hh, rfl, rfl, fun i d hd => ?_, fun hb => by omega⟩
        rw [List.getElem?_map] at hd
        simp only [Option.map_eq_some_iff, Array.getElem?_toList] at hd
        obtain ⟨v, hv, rfl⟩ := hd
        exact ⟨v, hv, VR_absV P w v⟩
      | _ => simp [RR, tie0, hh]
  inj := fun b c r s hb hc hr hs hrs => by
    have : ∀ {b r}, tie0 P w b = some r → r.blk = b := by
      intro b r h
      unfold tie0 at h
      split at h
      · cases h; rfl
      · cases h
    rw [← this hr, ← this hs, hrs]
  ext := World.Extends.refl w

/-- A slice that is found, cell by cell. -/
theorem Sls.start {w : World} {a : Addr} {n c sz : Nat} {xs : List (List Value)} (hlen : xs.length = n) (hc : n ≤ c) (hsz : 0 < sz) (hall : ∀ x ∈ xs, x.length = sz)
    (hcell : ∀ (i : Nat) (x : List Value), xs[i]? = some x → ∀ (j : Nat) (v : Value), x[j]? = some v → w.cell? (a.add (i * sz + j)) = some v) :
    ∃ ty, Sls (heap0 w) ty sz (absV w (.slice (some a) n c)) (xs.map (·.map (absV w))) := by
  cases n with
  | zero =>
    have : xs = [] := List.eq_nil_of_length_eq_zero hlen
    subst this
    exact ⟨0, rfl, rfl, fun i x hi => by simp at hi⟩
  | succ n =>
    obtain ⟨x0, xr, rfl⟩ : ∃ x0 xr, xs = x0 :: xr := by
      cases xs with
      | nil => simp at hlen
      | cons x xr => exact ⟨x, xr, rfl⟩
    have hx0 : 0 < x0.length := by rw [hall x0 List.mem_cons_self]; exact hsz
    have h0 := hcell 0 x0 rfl 0 _ (List.getElem?_eq_getElem hx0)
    have hadd0 : a.add (0 * sz + 0) = a := by simp [Addr.add]
    rw [hadd0] at h0
    have hspot : a.spot = none := by
      unfold World.cell? at h0
      split at h0
      · split at h0
        · cases h0
        · rename_i h; simpa using h
      · cases h0
    obtain ⟨b, o, sp⟩ := a
    have hsp : sp = none := hspot
    subst hsp
    have hblk : cellsB w b = true := by
      unfold World.cell? at h0
      unfold cellsB
      split at h0
      · rename_i hh; simp only at hh; rw [hh]
      · cases h0
    obtain ⟨cc, e, f, hh, hlt⟩ := cellsB_elim hblk
    have hval : absV w (.slice (some ⟨b, o, none⟩) (n + 1) c) = .sl b o (n + 1) := by simp [absV, hc, hblk]
    rw [hval]
    have hrow : (heap0 w).row b = .arr e (cc.toList.map (absV w)) := by simp [heap0, hh]
    refine ⟨e, rfl, by simp [BV.slen, ← hlen], fun i x hi => ?_⟩
    rw [List.getElem?_map] at hi
    simp only [Option.map_eq_some_iff] at hi
    obtain ⟨y, hy, rfl⟩ := hi
    have hyl := hall y (List.mem_of_getElem? hy)
    have hat : ∀ j v, y[j]? = some v → cc[o + (i * sz + j)]? = some v := by
      intro j v hv
      have := hcell i y hy j v hv
      have hadd : (⟨b, o, none⟩ : Addr).add (i * sz + j) = ⟨b, o + (i * sz + j), none⟩ := by unfold Addr.add; split <;> simp_all
      rw [hadd] at this
      simpa [World.cell?, hh] using this
    have hlast : o + (i * sz + (sz - 1)) < cc.size := by
      have := hat (sz - 1) _ (List.getElem?_eq_getElem (by omega))
      exact (Array.getElem?_eq_some_iff.1 this).1
    refine ⟨b, o + i * sz, _, rfl, hrow, by simp; omega, ?_⟩
    apply List.ext_getElem?
    intro j
    by_cases hj : j < sz
    · rw [List.getElem?_take_of_lt hj, List.getElem?_drop, List.getElem?_map, List.getElem?_map]
      have h1 := hat j _ (List.getElem?_eq_getElem (by omega))
      rw [Array.getElem?_toList, show o + i * sz + j = o + (i * sz + j) by omega, h1, List.getElem?_eq_getElem (by omega)]
    · rw [List.getElem?_eq_none (by simp; omega), List.getElem?_eq_none (by simp; omega)]

end Go.B
