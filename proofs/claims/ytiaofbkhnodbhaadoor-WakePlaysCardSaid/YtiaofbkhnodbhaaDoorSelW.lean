/- Choosing who wakes first, again and again, comes to the stable sort: plain. -/
import Derived.Test.YtiaofbkhnodbhaaDoorWnPlain
import Derived.Test.YtiaofbkhnodbhaaDoorWoPlain
namespace Go.Proofs.YtiaofbkhnodbhaaDoor
set_option linter.all false
open Go Go.RowKit
section
variable {α : Type} (lt : α → α → Bool)
theorem insR_last {m b : α} (h : lt b m = false) : ∀ r : List α, insR lt b (r ++ [m]) = insR lt b r ++ [m]
  | [] => by simp [insR, h]
  | y :: r => by
    rw [List.cons_append, insR, insR]
    split
    · rw [insR_last h r]; rfl
    · rfl
theorem insR_end {m : α} : ∀ r : List α, (∀ y ∈ r, lt m y = true) → insR lt m r = r ++ [m]
  | [], _ => rfl
  | y :: r, h => by rw [insR, if_pos (h y (by simp)), insR_end r (fun z hz => h z (by simp [hz]))]; rfl
theorem fold_last {m : α} : ∀ (B r : List α), (∀ b ∈ B, lt b m = false) → B.foldl (fun r x => insR lt x r) (r ++ [m]) = B.foldl (fun r x => insR lt x r) r ++ [m]
  | [], _, _ => rfl
  | b :: B, r, h => by rw [List.foldl_cons, List.foldl_cons, insR_last lt (h b (by simp)), fold_last B _ (fun z hz => h z (by simp [hz]))]
theorem isort_first {m : α} (A B : List α) (hA : ∀ a ∈ A, lt m a = true) (hB : ∀ b ∈ B, lt b m = false) : isort lt (A ++ m :: B) = m :: isort lt (A ++ B) := by
  unfold isort
  rw [List.foldl_append, List.foldl_append, List.foldl_cons]
  have h := fold_perm lt A []
  rw [List.append_nil] at h
  rw [insR_end lt _ (fun y hy => hA y (h.mem_iff.1 hy)), fold_last lt B _ hB, List.reverse_append]
  rfl
end
section
variable {p : Int} {l : List Order} {o x : Order} {b i : Nat}
/-- the first of those that wake, so far -/
structure Fst (p : Int) (l : List Order) (i b : Nat) (o : Order) : Prop where
  at_ : l[b]? = some o
  lt : b < i
  wakes : wakesB p o = true
  before : ∀ (j : Nat) (x : Order), j < b → l[j]? = some x → wakesB p x = true → ltOf wcf o x = true
  behind : ∀ (j : Nat) (x : Order), b < j → j < i → l[j]? = some x → wakesB p x = true → ltOf wcf x o = false
/-- so far none wakes -/
def NoneW (p : Int) (l : List Order) (i : Nat) : Prop := ∀ (j : Nat) (x : Order), j < i → l[j]? = some x → wakesB p x = false
theorem NoneW.zero : NoneW p l 0 := fun j _ hj => absurd hj (by omega)
theorem NoneW.next (h : NoneW p l i) (hx : l[i]? = some x) (hw : wakesB p x = false) : NoneW p l (i + 1) := fun j y hj hy => by
  rcases (show j < i ∨ j = i by omega) with h1 | rfl
  · exact h j y h1 hy
  · rw [hx] at hy; cases hy; exact hw
theorem NoneW.first (h : NoneW p l i) (hx : l[i]? = some x) (hw : wakesB p x = true) : Fst p l (i + 1) i x :=
  ⟨hx, by omega, hw, (fun j y hj hy hyw => by rw [h j y hj hy] at hyw; cases hyw), fun j y h1 h2 => absurd h2 (by omega)⟩
theorem Fst.skip (h : Fst p l i b o) (hx : l[i]? = some x) (hw : wakesB p x = false) : Fst p l (i + 1) b o :=
  ⟨h.at_, by have := h.lt; omega, h.wakes, h.before, fun j y h1 h2 hy hyw => by
    rcases (show j < i ∨ j = i by omega) with h3 | rfl
    · exact h.behind j y h1 h3 hy hyw
    · rw [hx] at hy; cases hy; rw [hw] at hyw; cases hyw⟩
theorem Fst.stays (h : Fst p l i b o) (hx : l[i]? = some x) (hl : ltOf wcf x o = false) : Fst p l (i + 1) b o :=
  ⟨h.at_, by have := h.lt; omega, h.wakes, h.before, fun j y h1 h2 hy hyw => by
    rcases (show j < i ∨ j = i by omega) with h3 | rfl
    · exact h.behind j y h1 h3 hy hyw
    · rw [hx] at hy; cases hy; exact hl⟩
theorem wcf_trans {x y z : Order} (h1 : ltOf wcf x y = true) (h2 : ltOf wcf z y = false) : ltOf wcf x z = true := by
  rw [wcf_lt] at *
  simp only [decide_eq_false_iff_not, decide_eq_true_eq] at *
  omega
theorem Fst.next (h : Fst p l i b o) (hx : l[i]? = some x) (hw : wakesB p x = true) (hl : ltOf wcf x o = true) : Fst p l (i + 1) i x :=
  ⟨hx, by omega, hw, (fun j y hj hy hyw => by
    rcases (show j < b ∨ j = b ∨ b < j by omega) with h1 | rfl | h1
    · exact wcf_trans hl (wcf_as _ _ (h.before j y h1 hy hyw))
    · rw [h.at_] at hy; cases hy; exact hl
    · exact wcf_trans hl (h.behind j y h1 (by omega) hy hyw)), fun j y h1 h2 => absurd h2 (by omega)⟩
theorem NoneW.done (h : NoneW p l l.length) : wakeL p l = [] ∧ leftS p l = l := by
  have hw : ∀ x ∈ l, wakesB p x = false := fun x hx => by
    obtain ⟨j, hj⟩ := List.mem_iff_getElem?.1 hx
    exact h j x (List.getElem?_eq_some_iff.1 hj).1 hj
  have e : wokenL p l = [] := List.filter_eq_nil_iff.2 fun x hx => by rw [hw x hx]; decide
  exact ⟨by rw [wakeL, e]; rfl, List.filter_eq_self.2 fun x hx => by rw [hw x hx]; rfl⟩
theorem Fst.done (h : Fst p l l.length b o) : wakeL p l = stop0 o :: wakeL p (l.eraseIdx b) ∧ leftS p (l.eraseIdx b) = leftS p l := by
  have hb := List.getElem?_eq_some_iff.1 h.at_
  have hl : l = l.take b ++ o :: l.drop (b + 1) := by
    have := List.take_append_drop b l
    rw [List.drop_eq_getElem_cons hb.1, hb.2] at this
    exact this.symm
  have he : l.eraseIdx b = l.take b ++ l.drop (b + 1) := List.eraseIdx_eq_take_drop_succ _ _
  have hA : ∀ a ∈ wokenL p (l.take b), ltOf wcf o a = true := fun a ha => by
    obtain ⟨h1, h2⟩ := List.mem_filter.1 ha
    obtain ⟨j, hj⟩ := List.mem_iff_getElem?.1 h1
    have hjl := (List.getElem?_eq_some_iff.1 hj).1
    rw [List.length_take] at hjl
    rw [List.getElem?_take_of_lt (by omega)] at hj
    exact h.before j a (by omega) hj h2
  have hB : ∀ a ∈ wokenL p (l.drop (b + 1)), ltOf wcf a o = false := fun a ha => by
    obtain ⟨h1, h2⟩ := List.mem_filter.1 ha
    obtain ⟨j, hj⟩ := List.mem_iff_getElem?.1 h1
    have hjl := (List.getElem?_eq_some_iff.1 hj).1
    rw [List.length_drop] at hjl
    rw [List.getElem?_drop] at hj
    exact h.behind (b + 1 + j) a (by omega) (by omega) hj h2
  have hw : wokenL p l = wokenL p (l.take b) ++ o :: wokenL p (l.drop (b + 1)) := by
    conv => lhs; rw [hl]
    rw [wokenL, List.filter_append, List.filter_cons, if_pos h.wakes]; rfl
  have hw2 : wokenL p (l.eraseIdx b) = wokenL p (l.take b) ++ wokenL p (l.drop (b + 1)) := by rw [he, wokenL, List.filter_append]; rfl
  refine ⟨?_, ?_⟩
  · rw [wakeL, wakeL, hw, hw2, isort_first (ltOf wcf) _ _ hA hB]; rfl
  · have e1 : leftS p l = leftS p (l.take b) ++ leftS p (l.drop (b + 1)) := by
      conv => lhs; rw [hl]
      rw [leftS, List.filter_append, List.filter_cons, if_neg (by simp [h.wakes])]; rfl
    rw [e1, he, leftS, List.filter_append]; rfl
end
end Go.Proofs.YtiaofbkhnodbhaaDoor
