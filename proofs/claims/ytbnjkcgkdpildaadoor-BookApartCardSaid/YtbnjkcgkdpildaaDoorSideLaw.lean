/- When a side, a book, is right: plain. -/
import Derived.Test.YtbnjkcgkdpildaaDoorBook3
import Derived.Test.YtbnjkcgkdpildaaDoorTakeLaw
namespace Go.Proofs.YtbnjkcgkdpildaaDoor
set_option linter.all false
open Go Go.RowKit
theorem side_two {s : Int} (h : vs s = true) : s = 1 ∨ s = 2 := by have := vs_t h; omega
theorem twice_iff : ∀ (l s : List Int), twice s l = false ↔ l.Nodup ∧ ∀ x ∈ l, x ∉ s
  | [], s => by simp [twice]
  | x :: r, s => by
    rw [twice, Bool.or_eq_false_iff, twice_iff r, List.nodup_cons]
    constructor
    · rintro ⟨h1, h2, h3⟩
      have h1' : x ∉ s := by simpa using h1
      refine ⟨⟨fun h => ?_, h2⟩, fun y hy => ?_⟩
      · exact h3 x h (by simp)
      · rcases List.mem_cons.1 hy with rfl | hy
        · exact h1'
        · exact fun h => h3 y hy (by simp [h])
    · rintro ⟨⟨h1, h2⟩, h3⟩
      refine ⟨by simpa using h3 x (by simp), h2, fun y hy h => ?_⟩
      rcases List.mem_append.1 h with h | h
      · exact h3 y (by simp [hy]) h
      · rw [List.mem_singleton] at h
        subst h
        exact h1 hy
theorem twice_nil (l : List Int) : twice [] l = false ↔ l.Nodup := by rw [twice_iff]; simp
theorem sAhd_iff {s a b : Int} (hs : vs s = true) : sAhd s a b = true ↔ (s = 1 ∧ b < a) ∨ (s = 2 ∧ a < b) := by
  rcases (show s = 1 ∨ s = 2 by have := vs_t hs; omega) with rfl | rfl <;> simp [sAhd, ahd']
theorem sAhd_trans {s a b c : Int} (hs : vs s = true) (h1 : sAhd s a b = true) (h2 : sAhd s b c = true) : sAhd s a c = true := by
  rw [sAhd_iff hs] at *
  omega
/-- a side that is right -/
structure SideOk (s : Int) (L : List Lv) : Prop where
  side : vs s = true
  price : ∀ x ∈ L, vp x.price = true
  full : ∀ x ∈ L, x.rs.length ≠ 0
  sound : ∀ x ∈ L, Sound x.rs
  sorted : L.Pairwise fun x y => sAhd s x.price y.price = true
  few : cnt L ≤ 60
  once : (ids L).Nodup
theorem ids_sub {L : List Lv} {x : Lv} (hx : x ∈ L) : (x.rs.map Rest.id).Sublist (ids L) := by
  induction L with
  | nil => cases hx
  | cons y L ih =>
    simp only [ids, List.flatMap_cons]
    rcases List.mem_cons.1 hx with rfl | hx
    · exact List.sublist_append_left _ _
    · exact (ih hx).trans (List.sublist_append_right _ _)
theorem len_cnt {L : List Lv} {x : Lv} (hx : x ∈ L) : x.rs.length ≤ cnt L := by
  have := (ids_sub hx).length_le
  rw [ids_len] at this
  simpa using this
theorem pairwise_step {s : Int} (hs : vs s = true) : ∀ (L : List Lv), (∀ k x y, L[k]? = some x → L[k + 1]? = some y → sAhd s x.price y.price = true) → L.Pairwise fun x y => sAhd s x.price y.price = true
  | [], _ => List.Pairwise.nil
  | x :: L, h => by
    have ih := pairwise_step hs L (fun k a b ha hb => h (k + 1) a b (by simpa using ha) (by simpa using hb))
    rw [List.pairwise_cons]
    refine ⟨fun y hy => ?_, ih⟩
    cases L with
    | nil => cases hy
    | cons z L =>
      have hz := h 0 x z rfl rfl
      rcases List.mem_cons.1 hy with rfl | hy
      · exact hz
      · exact sAhd_trans hs hz ((List.pairwise_cons.1 ih).1 y hy)
theorem sideE_iff {s : Int} {L : List Lv} : sideE s L = 0 ↔ SideOk s L := by
  constructor
  · intro h
    obtain ⟨h1, h2, h3, h4⟩ := sideE_zero h
    have h0 := lvErr_zero h2
    have each : ∀ x ∈ L, vp x.price = true ∧ x.rs.length ≠ 0 ∧ qErr x.rs = 0 := fun x hx => by
      obtain ⟨j, hj, rfl⟩ := List.getElem_of_mem hx
      have := stepL_zero (lv_get hj) (h0 j hj)
      exact ⟨this.1, this.2.1, this.2.2.1⟩
    refine ⟨h1, fun x hx => (each x hx).1, fun x hx => (each x hx).2.1, fun x hx => (qErr_iff.1 (each x hx).2.2).2.1, pairwise_step h1 L fun k x y hx hy => ?_, h3, (twice_nil _).1 h4⟩
    exact (stepL_zero hy (h0 _ (List.getElem?_eq_some_iff.1 hy).1)).2.2.2 x (by omega) (by simpa using hx)
  · rintro ⟨h1, h2, h3, h4, h5, h6, h7⟩
    have hq : ∀ x ∈ L, qErr x.rs = 0 := fun x hx => qErr_iff.2 ⟨Nat.le_trans (len_cnt hx) h6, h4 x hx, (ids_sub hx).nodup h7⟩
    have hl : lvErr s L = 0 := lvErr_none fun j hj => by
      have hm : L[j] ∈ L := List.getElem_mem hj
      unfold stepL
      rw [lv_get hj]
      simp only [h2 _ hm, h3 _ hm, hq _ hm]
      simp only [Bool.true_eq_false, if_false, ne_eq, not_true_eq_false]
      by_cases h0 : j = 0
      · rw [if_pos h0]
      · rw [if_neg h0, lv_get (show j - 1 < L.length by omega)]
        simp only
        rw [if_pos (List.pairwise_iff_getElem.1 h5 (j - 1) j (by omega) hj (by omega))]
    rw [sideE, h1, hl, (twice_nil _).2 h7]
    simp
    omega
/-- a book that is right -/
structure BookOk (L M : List Lv) : Prop where
  buys : SideOk 1 L
  sells : SideOk 2 M
  apart : ∀ x ∈ L, ∀ y ∈ M, x.price < y.price
  few : cnt L + cnt M ≤ 60
  once : (ids L ++ ids M).Nodup
theorem bookE_iff {L M : List Lv} : bookE L M = 0 ↔ BookOk L M := by
  constructor
  · intro h
    obtain ⟨h1, h2, h3⟩ := bookE_zero h
    rw [sideE_iff] at h1 h2
    unfold wholeE at h3
    by_cases hc : crossB L M = true
    · rw [if_pos hc] at h3; omega
    · rw [if_neg hc] at h3
      by_cases ht : twice [] (ids (L ++ M)) = true
      · rw [if_pos ht] at h3; omega
      · rw [if_neg ht] at h3
        refine ⟨h1, h2, fun x hx y hy => ?_, ?_, ?_⟩
        · cases L with
          | nil => cases hx
          | cons a L =>
            cases M with
            | nil => cases hy
            | cons b M =>
              have h0 : a.price < b.price := by simp [crossB] at hc; omega
              have ha : x.price ≤ a.price := by
                rcases List.mem_cons.1 hx with rfl | hx
                · omega
                · have := (sAhd_iff h1.side).1 ((List.pairwise_cons.1 h1.sorted).1 x hx); omega
              have hb : b.price ≤ y.price := by
                rcases List.mem_cons.1 hy with rfl | hy
                · omega
                · have := (sAhd_iff h2.side).1 ((List.pairwise_cons.1 h2.sorted).1 y hy); omega
              omega
        · by_cases hf : 60 < cnt L + cnt M
          · rw [if_pos hf] at h3; omega
          · omega
        · rw [← ids_app, ← twice_nil]
          simpa using ht
  · rintro ⟨h1, h2, h3, h4, h5⟩
    have e1 : crossB L M = false := by
      cases L with
      | nil => rfl
      | cons a L =>
        cases M with
        | nil => rfl
        | cons b M =>
          have := h3 a (by simp) b (by simp)
          simp [crossB]; omega
    have e2 : twice [] (ids (L ++ M)) = false := by rw [twice_nil, ids_app]; exact h5
    rw [bookE, sideE_iff.2 h1, sideE_iff.2 h2, wholeE, e1, e2]
    simp
    omega
theorem whereL_neg {L : List Lv} {id : Int} : (whereL L id).1 < 0 ↔ id ∉ ids L := by
  constructor
  · intro h hm
    obtain ⟨x, hx, hr⟩ := List.mem_flatMap.1 hm
    obtain ⟨k, hk, rfl⟩ := List.getElem_of_mem hx
    unfold whereL at h
    split at h
    · simp only at h; omega
    · rename_i hn
      rw [List.find?_eq_none] at hn
      have := hn k (List.mem_range.2 hk)
      simp only [List.getD_eq_getElem?_getD, List.getElem?_eq_getElem hk, Option.getD_some, decide_eq_true_eq] at this
      exact findI_neg.1 this hr
  · intro h
    rw [whereL_none fun j hj => ?_]
    · simp
    · have : ¬ 0 ≤ findI ((L.getD j ⟨0, []⟩).rs) id := by
        rw [findI_neg]
        intro hr
        apply h
        rw [List.getD_eq_getElem?_getD, List.getElem?_eq_getElem hj, Option.getD_some] at hr
        exact List.mem_flatMap.2 ⟨L[j], List.getElem_mem hj, hr⟩
      omega
theorem whereB_zero {L M : List Lv} {id : Int} : (whereB L M id).1 = 0 ↔ id ∉ ids L ∧ id ∉ ids M := by
  rw [← whereL_neg, ← whereL_neg]
  unfold whereB
  by_cases h1 : 0 ≤ (whereL L id).1
  · rw [if_pos h1]; constructor
    · intro h; simp at h
    · intro h; omega
  · rw [if_neg h1]
    by_cases h2 : 0 ≤ (whereL M id).1
    · rw [if_pos h2]; constructor
      · intro h; simp at h
      · intro h; omega
    · rw [if_neg h2]; constructor
      · intro _; omega
      · intro _; rfl
theorem readyE_iff {L M : List Lv} {o : Order} : readyE L M o = 0 ↔ BookOk L M ∧ o.err = 0 ∧ o.stop = 0 ∧ o.id ∉ ids L ∧ o.id ∉ ids M := by
  rw [← bookE_iff, ← whereB_zero]
  unfold readyE
  by_cases h1 : bookE L M = 0
  · rw [if_neg (by simpa using h1)]
    by_cases h2 : o.err = 0
    · rw [if_neg (by simpa using h2)]
      by_cases h3 : o.stop = 0
      · rw [if_neg (by simpa using h3)]
        by_cases h4 : (whereB L M o.id).1 = 0
        · simp [h1, h2, h3, h4]
        · simp [h4]
      · simp [h3]
    · simp [h2]
  · simp [h1]
theorem vs_of {s : Int} (h : s = 1 ∨ s = 2) : vs s = true := by rcases h with rfl | rfl <;> decide
end Go.Proofs.YtbnjkcgkdpildaaDoor
