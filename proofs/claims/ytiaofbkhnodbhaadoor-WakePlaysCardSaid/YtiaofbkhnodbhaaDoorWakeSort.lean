/- A stable sort by insertion: plain; and what the kit's insertion sort over an array comes to. -/
import Derived.Shelf.SlSortCmp.InsertionK
namespace Go.Proofs.YtiaofbkhnodbhaaDoor
set_option linter.all false
open Go
section
variable {α : Type} (lt : α → α → Bool)
/-- x put behind all that it is not ahead of: a list from its end -/
def insR (x : α) : List α → List α
  | [] => [x]
  | y :: r => if lt x y = true then y :: insR x r else x :: y :: r
/-- sorted, stable -/
def isort (l : List α) : List α := (l.foldl (fun r x => insR lt x r) []).reverse
theorem insR_perm (x : α) : ∀ r : List α, (insR lt x r).Perm (x :: r)
  | [] => List.Perm.refl _
  | y :: r => by
    unfold insR
    split
    · exact ((insR_perm x r).cons y).trans (List.Perm.swap x y r)
    · exact List.Perm.refl _
theorem fold_perm : ∀ (l r : List α), (l.foldl (fun r x => insR lt x r) r).Perm (l ++ r)
  | [], r => List.Perm.refl _
  | x :: l, r => by
    rw [List.foldl_cons]
    refine (fold_perm l _).trans ?_
    refine ((insR_perm lt x r).append_left l).trans ?_
    exact List.perm_middle
theorem isort_perm (l : List α) : (isort lt l).Perm l := by
  have := fold_perm lt l []
  rw [List.append_nil] at this
  exact (List.reverse_perm _).trans this
theorem isort_len (l : List α) : (isort lt l).length = l.length := (isort_perm lt l).length_eq
theorem isort_mem {l : List α} {x : α} : x ∈ isort lt l ↔ x ∈ l := (isort_perm lt l).mem_iff
/-- a relation that holds ahead of the sort from each to each later one that is not ahead of it, and of lt from one to what it is ahead of, holds behind it -/
theorem insR_pair {R : α → α → Prop} (hn : ∀ x y z, lt y x = false → lt z y = false → lt z x = false) {x : α} : ∀ {r : List α}, r.Pairwise (fun a b => R b a ∧ lt a b = false) → (∀ y ∈ r, (lt x y = false → R y x) ∧ (lt x y = true → R x y ∧ lt y x = false)) → (insR lt x r).Pairwise (fun a b => R b a ∧ lt a b = false)
  | [], _, _ => List.pairwise_singleton _ _
  | y :: r, hp, hx => by
    rw [List.pairwise_cons] at hp
    unfold insR
    split
    · rename_i h
      rw [List.pairwise_cons]
      refine ⟨fun z hz => ?_, insR_pair hn hp.2 (fun z hz => hx z (by simp [hz]))⟩
      rcases (insR_perm lt x r).mem_iff.1 hz with _ | ⟨_, hz⟩
      · exact (hx y (by simp)).2 h
      · exact hp.1 z hz
    · rename_i h
      have h : lt x y = false := by simpa using h
      rw [List.pairwise_cons]
      refine ⟨fun z hz => ?_, List.pairwise_cons.2 hp⟩
      have hz2 : lt x z = false := by
        rcases List.mem_cons.1 hz with rfl | hz
        · exact h
        · exact hn z y x (hp.1 z hz).2 h
      exact ⟨(hx z hz).1 hz2, hz2⟩
theorem isort_pair {R : α → α → Prop} (hn : ∀ x y z, lt y x = false → lt z y = false → lt z x = false) (ha : ∀ x y, lt x y = true → lt y x = false) (hR : ∀ x y, lt x y = true → R x y) {l : List α} (hl : l.Pairwise fun a b => lt b a = false → R a b) :
    (isort lt l).Pairwise fun a b => R a b ∧ lt b a = false := by
  have : ∀ (l r : List α), l.Pairwise (fun a b => lt b a = false → R a b) → r.Pairwise (fun a b => R b a ∧ lt a b = false) → (∀ y ∈ r, ∀ x ∈ l, lt x y = false → R y x) → (l.foldl (fun r x => insR lt x r) r).Pairwise (fun a b => R b a ∧ lt a b = false) := by
    intro l
    induction l with
    | nil => intro r _ h _; exact h
    | cons x l ih =>
      intro r hl hr hx
      rw [List.pairwise_cons] at hl
      rw [List.foldl_cons]
      refine ih _ hl.2 (insR_pair lt hn hr fun y hy => ⟨hx y hy x (by simp), fun h => ⟨hR _ _ h, ha _ _ h⟩⟩) fun y hy z hz => ?_
      rcases (insR_perm lt x r).mem_iff.1 hy with _ | ⟨_, hy⟩
      · exact hl.1 z hz
      · exact hx y hy z (by simp [hz])
  rw [isort, List.pairwise_reverse]
  exact this l [] hl List.Pairwise.nil (fun y hy => by cases hy)
variable [Inhabited α]
open Go.Sort
theorem arr_get (P S : List α) (x : α) : (P ++ x :: S).toArray[P.length]! = x := by simp
theorem swp_lists (P S : List α) (y x : α) : swp (P ++ y :: x :: S).toArray (P.length + 1) P.length = (P ++ x :: y :: S).toArray := by
  refine Array.ext (by simp [size_swp]) fun i h1 h2 => ?_
  have h1' : i < (P ++ y :: x :: S).length := by simpa [size_swp] using h1
  rw [← getElem!_pos _ i h1, ← getElem!_pos _ i h2, swp_get _ (by simp) (by simp)]
  by_cases a : i = P.length
  · subst a; simp
  · by_cases b : i = P.length + 1
    · subst b; simp
    · simp only [a, b, if_false]
      rcases Nat.lt_or_ge i P.length with h | h
      · simp [List.getElem?_append_left h]
      · obtain ⟨k, rfl⟩ : ∃ k, i = P.length + 2 + k := ⟨i - (P.length + 2), by omega⟩
        simp [List.getElem?_append_right, Nat.add_assoc, show P.length + (2 + k) - P.length = k + 2 by omega]
theorem inner_lists (x : α) (S : List α) : ∀ P : List α, insInner lt 0 P.length (P ++ x :: S).toArray = ((insR lt x P.reverse).reverse ++ S).toArray := by
  intro P
  induction hn : P.length generalizing P S with
  | zero => have : P = [] := List.eq_nil_of_length_eq_zero hn; subst this; rfl
  | succ n ih =>
    obtain ⟨Q, y, rfl⟩ : ∃ Q y, P = Q ++ [y] := by
      rcases List.eq_nil_or_concat P with h | ⟨Q, y, h⟩
      · subst h; simp at hn
      · exact ⟨Q, y, by simpa using h⟩
    have hq : Q.length = n := by simpa using hn
    subst hq
    have e1 : ((Q ++ [y]) ++ x :: S).toArray = (Q ++ y :: x :: S).toArray := by simp
    rw [e1, insInner]
    have g1 : (Q ++ y :: x :: S).toArray[Q.length + 1]! = x := by simp
    have g0 : (Q ++ y :: x :: S).toArray[Q.length]! = y := by simp
    rw [g1, g0]
    have er : (Q ++ [y]).reverse = y :: Q.reverse := by simp
    rw [er, insR]
    cases h : lt x y with
    | true =>
      simp only [Nat.zero_lt_succ, gt_iff_lt, decide_true, Bool.true_and, if_true]
      rw [swp_lists, ih (y :: S) Q rfl]
      simp
    | false => simp
theorem outer_lists : ∀ (S P : List α), insOuter lt 0 (P.length + S.length) P.length (P ++ S).toArray = ((S.foldl (fun r x => insR lt x r) P.reverse).reverse).toArray := by
  intro S
  induction S with
  | nil => intro P; rw [insOuter, if_neg (by simp)]; simp
  | cons x S ih =>
    intro P
    rw [insOuter, if_pos (by simp), inner_lists lt x S P]
    have hl : ((insR lt x P.reverse).reverse).length = P.length + 1 := by rw [List.length_reverse, (insR_perm lt x P.reverse).length_eq]; simp
    have := ih (insR lt x P.reverse).reverse
    rw [hl, List.reverse_reverse] at this
    rw [List.length_cons, show P.length + (S.length + 1) = P.length + 1 + S.length by omega, this]
    rfl
theorem insertion_isort (l : List α) : insertionSort lt l.toArray 0 l.length = (isort lt l).toArray := by
  cases l with
  | nil => rw [insertionSort, insOuter, if_neg (by simp)]; rfl
  | cons x l =>
    have := outer_lists lt l [x]
    rw [insertionSort]
    simp only [List.length_cons, List.length_nil, Nat.zero_add, List.singleton_append, List.reverse_cons, List.reverse_nil, List.nil_append] at this ⊢
    rw [show l.length + 1 = 1 + l.length by omega, this]
    rfl
end
end Go.Proofs.YtiaofbkhnodbhaaDoor
