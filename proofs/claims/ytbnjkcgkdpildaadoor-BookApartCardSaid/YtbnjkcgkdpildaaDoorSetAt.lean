/- One level of the call's own has other rests; what adding a rest does: plain. -/
import Derived.Test.YtbnjkcgkdpildaaDoorInsLv
import Derived.Test.YtbnjkcgkdpildaaDoorPutE
namespace Go.Proofs.YtbnjkcgkdpildaaDoor
set_option linter.all false
open Go Go.RowKit
theorem lvCells_set {L : List Lv} {vs : List (Option Addr × Nat)} {k : Nat} {x : Lv} {v : Option Addr × Nat} (h : vs.length = L.length) (hx : L[k]? = some x) (hv : vs[k]? = some v) (rs : List Rest) (A' : Option Addr) (c' : Nat) :
    lvCells (L.set k ⟨x.price, rs⟩) (vs.set k (A', c')) = (lvCells L vs).set (k * 2 + 1) (.slice A' rs.length c') := by
  induction L generalizing vs k with
  | nil => simp at hx
  | cons a L ih =>
    cases vs with
    | nil => simp at h
    | cons b vs =>
      cases k with
      | zero => cases hx; cases hv; rfl
      | succ k =>
        have e := ih (vs := vs) (k := k) (by simpa using h) (by simpa using hx) (by simpa using hv)
        show lvCells (a :: L.set k ⟨x.price, rs⟩) (b :: vs.set k (A', c')) = _
        have e1 : ∀ (L' : List Lv) (vs' : List (Option Addr × Nat)), lvCells (a :: L') (b :: vs') = [.int .i64 a.price, .slice b.1 a.rs.length b.2] ++ lvCells L' vs' := fun _ _ => rfl
        rw [e1, e1, e, show (k + 1) * 2 + 1 = (k * 2 + 1) + 1 + 1 by omega]
        rfl
theorem OwnLv.setAt {w w1 : World} {base cap c' g off k : Nat} {A' : Option Addr} {L : List Lv} {x : Lv} {v : Option Addr × Nat} {vs : List (Option Addr × Nat)} {rs : List Rest} (h : OwnLv w base (some ⟨g, off, none⟩) cap L vs) (hx : L[k]? = some x) (hv : vs[k]? = some v) (hg : w.grownBy w1 (rowOf v.1 v.2)) (o : OwnS w1 base 5 A' rs.length c' (rows rs))
    (hr : rowOf A' c' = none ∨ rowOf A' c' = rowOf v.1 v.2 ∨ ∃ k, rowOf A' c' = some k ∧ w.heap.size ≤ k) :
    OwnLv (w1.setCell ⟨g, off + (k * 2 + 1), none⟩ (.slice A' rs.length c')) base (some ⟨g, off, none⟩) cap (L.set k ⟨x.price, rs⟩) (vs.set k (A', c')) := by
  have hk : k < L.length := (List.getElem?_eq_some_iff.1 hx).1
  have hcap : 0 < cap := by have := h.own.le; omega
  have hrow : rowOf (some (⟨g, off, none⟩ : Addr)) cap = some g := by rw [rowOf, if_neg (by omega)]; rfl
  have hvg : Ap (rowOf v.1 v.2) (some g) := by rw [← hrow]; exact (h.each k x v hx hv).2
  have hglt := h.own.row_lt g hrow
  have hA'g : Ap (rowOf A' c') (some g) := by
    rcases hr with e | e | ⟨k', e, hk'⟩
    · exact .inl e
    · rw [e]; exact hvg
    · rw [e]; exact .inr (by intro e; cases e; omega)
  have far : ∀ {s n c : Nat} {B : Option Addr} {xs : List Value}, OwnS w1 base s B n c xs → Ap (rowOf B c) (some g) → OwnS (w1.setCell ⟨g, off + (k * 2 + 1), none⟩ (.slice A' rs.length c')) base s B n c xs :=
    fun o hp => o.apart (grown_set w1 ⟨g, off + (k * 2 + 1), none⟩ _) hp
  have own1 : OwnS w1 base 2 (some ⟨g, off, none⟩) L.length cap (lvCells L vs) := h.own.apart hg (by rw [hrow]; exact hvg.symm)
  have hn : ∀ (i : Nat) u, i ≠ k → vs[i]? = some u → Ap (rowOf A' c') (rowOf u.1 u.2) := by
    intro i u hik hu
    rcases hr with e | e | ⟨k', e, hk'⟩
    · exact .inl e
    · rw [e]; exact h.apart k i v u (Ne.symm hik) hv hu
    · rw [e]
      refine .inr fun e2 => ?_
      have := (h.each_lt hu k' e2.symm).2
      omega
  have hlen := h.len
  refine ⟨by simpa using hlen, ?_, ?_, ?_⟩
  · rw [lvCells_set hlen hx hv, List.length_set]
    exact own1.set (j := k * 2 + 1) (by omega) (.slice A' rs.length c')
  · intro i y u hy hu
    by_cases hik : i = k
    · subst hik
      rw [List.getElem?_set_self hk] at hy
      rw [List.getElem?_set_self (by omega)] at hu
      cases hy; cases hu
      exact ⟨far o hA'g, by rw [hrow]; exact hA'g⟩
    · rw [List.getElem?_set_ne (Ne.symm hik)] at hy hu
      have he := h.each i y u hy hu
      exact ⟨far (he.1.apart hg (h.apart i k u v hik hu hv)) (by rw [← hrow]; exact he.2), he.2⟩
  · intro i j u u' hij hu hu'
    by_cases hik : i = k
    · subst hik
      rw [List.getElem?_set_self (by omega)] at hu
      rw [List.getElem?_set_ne hij] at hu'
      cases hu
      exact hn j u' (Ne.symm hij) hu'
    · rw [List.getElem?_set_ne (Ne.symm hik)] at hu
      by_cases hjk : j = k
      · subst hjk
        rw [List.getElem?_set_self (by omega)] at hu'
        cases hu'
        exact (hn i u hik hu).symm
      · rw [List.getElem?_set_ne (Ne.symm hjk)] at hu'
        exact h.apart i j u u' hij hu hu'
/-- all ahead, then the price itself -/
theorem addL_at {s p : Int} {r : Rest} : ∀ {L : List Lv} {k : Nat} {x : Lv}, L[k]? = some x → (∀ j y, j < k → L[j]? = some y → sAhd s y.price p = true) → sAhd s x.price p = false → x.price = p → addL s p r L = L.set k ⟨x.price, x.rs ++ [r]⟩
  | [], _, _, h, _, _, _ => by simp at h
  | a :: L, 0, x, h, _, h2, h3 => by
    cases h
    rw [addL, h2, h3]
    simp
  | a :: L, k + 1, x, h, h1, h2, h3 => by
    have ha := h1 0 a (by omega) rfl
    rw [addL, if_pos ha, addL_at (L := L) (k := k) (by simpa using h) (fun j y hj hy => h1 (j + 1) y (by omega) (by simpa using hy)) h2 h3]
    rfl
/-- all ahead, then none of the price -/
theorem addL_new {s p : Int} {r : Rest} : ∀ {L : List Lv} {k : Nat}, k ≤ L.length → (∀ j y, j < k → L[j]? = some y → sAhd s y.price p = true) → (∀ x, L[k]? = some x → sAhd s x.price p = false ∧ x.price ≠ p) → addL s p r L = (insAt L k ⟨p, []⟩).set k ⟨p, [] ++ [r]⟩
  | [], 0, _, _, _ => rfl
  | [], k + 1, h, _, _ => by simp at h
  | a :: L, 0, _, _, h2 => by
    obtain ⟨e1, e2⟩ := h2 a rfl
    rw [addL, e1]
    simp [e2, insAt]
  | a :: L, k + 1, h, h1, h2 => by
    have ha := h1 0 a (by omega) rfl
    rw [addL, if_pos ha, addL_new (L := L) (k := k) (by simpa using h) (fun j y hj hy => h1 (j + 1) y (by omega) (by simpa using hy)) (fun x hx => h2 x (by simpa using hx))]
    rfl
end Go.Proofs.YtbnjkcgkdpildaaDoor
