/- The memory of a meeting: levels of its own of which the first turns, trades and ids that grow; all apart. -/
import Derived.Test.YtbnjkcgkdpildaaDoorMeetM
namespace Go.Proofs.YtbnjkcgkdpildaaDoor
set_option linter.all false
open Go Go.RowKit
/-- two blocks, if there are two, are not one -/
def Ap (a b : Option Nat) : Prop := a = none ∨ a ≠ b
theorem Ap.symm {a b : Option Nat} (h : Ap a b) : Ap b a := by
  rcases h with rfl | h
  · cases b with
    | none => exact .inl rfl
    | some x => exact .inr (by simp)
  · exact .inr (Ne.symm h)
theorem Ap.new {a b : Option Nat} {n : Nat} (ha : ∀ k, a = some k → n ≤ k) (hb : ∀ k, b = some k → k < n) : Ap a b := by
  cases a with
  | none => exact .inl rfl
  | some k =>
    refine .inr fun e => ?_
    have h1 := ha k rfl
    have h2 := hb k e.symm
    omega
theorem Ap.none_right (a : Option Nat) : Ap a none := by
  cases a with
  | none => exact .inl rfl
  | some x => exact .inr (by simp)
section
variable {w w1 : World} {base cap c' g off : Nat} {A A' : Option Addr} {L : List Lv} {x : Lv} {v : Option Addr × Nat} {vs : List (Option Addr × Nat)} {rs : List Rest}
theorem OwnLv.row_lt (h : OwnLv w base A cap L vs) : ∀ k, rowOf A cap = some k → base ≤ k ∧ k < w.heap.size := h.own.row_lt
theorem OwnLv.each_lt (h : OwnLv w base A cap L vs) {i : Nat} {u : Option Addr × Nat} (hu : vs[i]? = some u) : ∀ k, rowOf u.1 u.2 = some k → base ≤ k ∧ k < w.heap.size := by
  have hi : i < L.length := by rw [← h.len]; exact (List.getElem?_eq_some_iff.1 hu).1
  exact ((h.each i _ u (lv_get hi) hu).1).row_lt
/-- a block of its own turns: all else of it is as it was -/
theorem OwnLv.keep {row : Option Nat} (h : OwnLv w base A cap L vs) (hg : w.grownBy w1 row) (h1 : Ap (rowOf A cap) row) (h2 : ∀ (i : Nat) u, vs[i]? = some u → Ap (rowOf u.1 u.2) row) : OwnLv w1 base A cap L vs := by
  have key : ∀ {s n c : Nat} {B : Option Addr} {xs : List Value}, OwnS w base s B n c xs → Ap (rowOf B c) row → OwnS w1 base s B n c xs := by
    intro s n c B xs o hp
    rcases hp with hp | hp
    · have hc : c = 0 ∨ B = none := by
        unfold rowOf at hp
        split at hp
        · left; assumption
        · right; cases B with
          | none => rfl
          | some b => cases hp
      refine ⟨o.len, o.le, o.max, fun h0 => ?_⟩
      obtain ⟨g', off', e, _⟩ := o.lies h0
      rcases hc with hc | hc
      · omega
      · rw [hc] at e; cases e
    · exact o.keep hg (.inr hp)
  exact ⟨h.len, key h.own h1, fun i y u hy hu => ⟨key (h.each i y u hy hu).1 (h2 i u hu), (h.each i y u hy hu).2⟩, h.apart⟩
theorem OwnS.apart {s n c : Nat} {B : Option Addr} {xs : List Value} {row : Option Nat} (o : OwnS w base s B n c xs) (hg : w.grownBy w1 row) (hp : Ap (rowOf B c) row) : OwnS w1 base s B n c xs := by
  rcases hp with hp | hp
  · have hc : c = 0 ∨ B = none := by
      unfold rowOf at hp
      split at hp
      · left; assumption
      · right; cases B with
        | none => rfl
        | some b => cases hp
    refine ⟨o.len, o.le, o.max, fun h0 => ?_⟩
    obtain ⟨g', off', e, _⟩ := o.lies h0
    rcases hc with hc | hc
    · omega
    · rw [hc] at e; cases e
  · exact o.keep hg (.inr hp)
/-- a store below its blocks -/
theorem OwnLv.far {p : Addr} (h : OwnLv w base A cap L vs) (hp : p.block < base) (u : Value) : OwnLv (w.setCell p u) base A cap L vs :=
  h.keep (grown_set w p u) (Ap.new (n := base) (fun k hk => (h.row_lt k hk).1) (fun k hk => by cases hk; exact hp)) (fun i v hv => Ap.new (n := base) (fun k hk => (h.each_lt hv k hk).1) (fun k hk => by cases hk; exact hp))
theorem OwnLv.far2 {g i j : Nat} (h : OwnLv w base A cap L vs) (hg : g < base) (a b : Value) : OwnLv ((w.setCell ⟨g, i, none⟩ a).setCell ⟨g, j, none⟩ b) base A cap L vs := (h.far (p := ⟨g, i, none⟩) hg a).far (p := ⟨g, j, none⟩) hg b
/-- the first level has other rests now -/
theorem OwnLv.head (h : OwnLv w base (some ⟨g, off, none⟩) cap (x :: L) (v :: vs)) (hg : w.grownBy w1 (rowOf v.1 v.2)) (o : OwnS w1 base 5 A' rs.length c' (rows rs))
    (hr : rowOf A' c' = none ∨ rowOf A' c' = rowOf v.1 v.2 ∨ ∃ k, rowOf A' c' = some k ∧ w.heap.size ≤ k) :
    OwnLv (w1.setCell ⟨g, off + 1, none⟩ (.slice A' rs.length c')) base (some ⟨g, off, none⟩) cap (⟨x.price, rs⟩ :: L) ((A', c') :: vs) := by
  have hcap : 0 < cap := by have := h.own.le; simp at this; omega
  have hrow : rowOf (some ⟨g, off, none⟩) cap = some g := by rw [rowOf, if_neg (by omega)]; rfl
  have hv0 := h.each 0 x v rfl rfl
  have hvg : Ap (rowOf v.1 v.2) (some g) := by rw [← hrow]; exact hv0.2
  have hglt := h.own.row_lt g hrow
  have hA'g : Ap (rowOf A' c') (some g) := by
    rcases hr with e | e | ⟨k, e, hk⟩
    · exact .inl e
    · rw [e]; exact hvg
    · rw [e]; exact .inr (by intro e; cases e; omega)
  have far : ∀ {s n c : Nat} {B : Option Addr} {xs : List Value}, OwnS w1 base s B n c xs → Ap (rowOf B c) (some g) → OwnS (w1.setCell ⟨g, off + 1, none⟩ (.slice A' rs.length c')) base s B n c xs :=
    fun o hp => o.apart (grown_set w1 ⟨g, off + 1, none⟩ _) hp
  have own1 : OwnS w1 base 2 (some ⟨g, off, none⟩) (L.length + 1) cap (lvCells (x :: L) (v :: vs)) := h.own.apart hg (by rw [hrow]; exact hvg.symm)
  refine ⟨by have := h.len; simpa using this, ?_, ?_, ?_⟩
  · have := own1.set (j := 1) (by omega) (.slice A' rs.length c')
    exact this
  · intro i y u hy hu
    cases i with
    | zero =>
      cases hy; cases hu
      exact ⟨far o hA'g, by rw [hrow]; exact hA'g⟩
    | succ i =>
      have he := h.each (i + 1) y u hy hu
      have hap : Ap (rowOf u.1 u.2) (rowOf v.1 v.2) := h.apart (i + 1) 0 u v (by omega) hu rfl
      exact ⟨far (he.1.apart hg hap) (by rw [← hrow]; exact he.2), he.2⟩
  · have hn : ∀ (i : Nat) u, vs[i]? = some u → Ap (rowOf A' c') (rowOf u.1 u.2) := by
      intro i u hu
      rcases hr with e | e | ⟨k, e, hk⟩
      · exact .inl e
      · rw [e]; exact h.apart 0 (i + 1) v u (by omega) rfl hu
      · rw [e]
        refine .inr fun e2 => ?_
        have := (h.each_lt (i := i + 1) (u := u) hu k e2.symm).2
        omega
    intro i j u u' hij hu hu'
    cases i with
    | zero =>
      cases hu
      cases j with
      | zero => omega
      | succ j => exact hn j u' hu'
    | succ i =>
      cases j with
      | zero => cases hu'; exact (hn i u hu).symm
      | succ j => exact h.apart (i + 1) (j + 1) u u' (by omega) hu hu'
/-- the first level cut off -/
theorem OwnLv.tail (h : OwnLv w base (some ⟨g, off, none⟩) cap (x :: L) (v :: vs)) : OwnLv w base (some (if cap = 1 then ⟨g, off, none⟩ else ⟨g, off + 2, none⟩)) (cap - 1) L vs := by
  have hcap : 0 < cap := by have := h.own.le; simp at this; omega
  refine ⟨by have := h.len; simpa using this, ?_, fun i y u hy hu => ?_, fun i j u u' hij hu hu' => h.apart (i + 1) (j + 1) u u' (by omega) hu hu'⟩
  · have := h.own.tail (n := L.length)
    exact this
  · have he := h.each (i + 1) y u hy hu
    refine ⟨he.1, ?_⟩
    rcases he.2 with e | e
    · exact .inl e
    · by_cases h1 : cap = 1
      · subst h1
        rw [show rowOf (some (if (1:Nat) = 1 then (⟨g, off, none⟩ : Addr) else ⟨g, off + 2, none⟩)) (1 - 1) = none from rfl]
        exact Ap.none_right _
      · rw [if_neg h1]
        refine .inr ?_
        rw [show rowOf (some (⟨g, off + 2, none⟩ : Addr)) (cap - 1) = some g by rw [rowOf, if_neg (by omega)]; rfl]
        rw [show rowOf (some (⟨g, off, none⟩ : Addr)) cap = some g by rw [rowOf, if_neg (by omega)]; rfl] at e
        exact e
theorem row_tail {n : Nat} (hc : 0 < cap) : rowOf (some (if cap = 1 then (⟨g, off, none⟩ : Addr) else ⟨g, off + n, none⟩)) (cap - 1) = none ∨ rowOf (some (if cap = 1 then (⟨g, off, none⟩ : Addr) else ⟨g, off + n, none⟩)) (cap - 1) = rowOf (some ⟨g, off, none⟩) cap := by
  by_cases h1 : cap = 1
  · subst h1; exact .inl rfl
  · right; rw [if_neg h1, rowOf, if_neg (by omega), rowOf, if_neg (by omega)]; rfl
end
end Go.Proofs.YtbnjkcgkdpildaaDoor
