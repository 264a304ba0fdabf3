/- What holds of a book with a rest more: plain. -/
import Derived.Test.YtbnjkcgkdpildaaBookCut
import Derived.Test.YtbnjkcgkdpildaaBookTop
namespace Go.Proofs.Ytbnjkcgkdpildaa
set_option linter.all false
open Go Go.RowKit
theorem putE_parts {L M : List Lv} {s p : Int} {r : Rest} (h : putE L M s p r = 0) : BookOk L M ∧ vs s = true ∧ addE s (sidL s L M) p r = 0 ∧ wholeE (putL s p r L) (putM s p r M) = 0 := by
  unfold putE at h
  by_cases h1 : bookE L M = 0
  · rw [if_neg (by simpa using h1)] at h
    cases h2 : vs s
    · rw [h2] at h; simp at h
    · rw [h2] at h
      simp only [Bool.true_eq_false, if_false] at h
      by_cases h3 : addE s (sidL s L M) p r = 0
      · rw [if_neg (by simpa using h3)] at h
        exact ⟨bookE_iff.1 h1, rfl, h3, h⟩
      · rw [if_pos h3] at h; exact absurd h h3
  · rw [if_pos h1] at h; exact absurd h h1
/-- what holds of a book with a rest more -/
structure Putted (L M : List Lv) (s p : Int) (r : Rest) : Prop where
  ok : BookOk (putL s p r L) (putM s p r M)
  old : BookOk L M
  side : vs s = true
  found : (whereB (putL s p r L) (putM s p r M) r.id).1 ≠ 0
  at_ : ∀ s' i k x q, BAt (putL s p r L) (putM s p r M) r.id s' i k x q → s' = s ∧ x.price = p ∧ q = r ∧ cutL s' i k (putL s p r L) = L ∧ cutM s' i k (putM s p r M) = M
  cnt_ : cnt (putL s p r L) + cnt (putM s p r M) = cnt L + cnt M + 1
theorem putted {L M : List Lv} {s p : Int} {r : Rest} (h : putE L M s p r = 0) : Putted L M s p r := by
  obtain ⟨h1, h2, h3, h4⟩ := putE_parts h
  obtain ⟨i, k, rs, ha⟩ := added h3
  have key : ∀ {K : List Lv} {i' k' : Nat} {x : Lv} {q : Rest}, Added s p r K i k rs → At (addL s p r K) r.id i' k' x q → x.price = p ∧ q = r ∧ outL (addL s p r K) i' k' = K := by
    intro K i' k' x q hA h2
    have e := hA.where_.symm.trans h2.where_
    simp only [Prod.mk.injEq] at e
    obtain rfl : i = i' := by omega
    obtain rfl : k = k' := by omega
    have e2 := hA.at_.symm.trans h2.lv
    cases e2
    refine ⟨rfl, ?_, hA.back⟩
    have := h2.rest
    rw [hA.len] at this
    simp at this
    exact this.symm
  rcases side_two h2 with rfl | rfl
  · change Added 1 p r L i k rs at ha
    have hok : BookOk (addL 1 p r L) M := by
      rw [← bookE_iff, bookE, sideE_iff.2 ha.side, sideE_iff.2 h1.sells]
      rw [if_neg (by simp), if_neg (by simp)]
      exact h4
    have hw : whereB (addL 1 p r L) M r.id = (1, (i : Int), (k : Int)) := by
      have := ha.where_
      rw [whereB, this, if_pos (by dsimp only; omega)]
    refine ⟨hok, h1, h2, by rw [show putL 1 p r L = addL 1 p r L from rfl, show putM 1 p r M = M from rfl, hw]; exact Int.one_ne_zero, fun s' i' k' x q hb => ?_, ?_⟩
    · have hb1 := hb.where_
      rw [show putL 1 p r L = addL 1 p r L from rfl, show putM 1 p r M = M from rfl, hw] at hb1
      simp only [Prod.mk.injEq] at hb1
      obtain ⟨rfl, _, _⟩ := hb1
      obtain ⟨e1, e2, e3⟩ := key ha hb.at_
      exact ⟨rfl, e1, e2, e3, rfl⟩
    · show cnt (addL 1 p r L) + cnt M = _
      rw [cnt_addL]; omega
  · change Added 2 p r M i k rs at ha
    have hok : BookOk L (addL 2 p r M) := by
      rw [← bookE_iff, bookE, sideE_iff.2 h1.buys, sideE_iff.2 ha.side]
      rw [if_neg (by simp), if_neg (by simp)]
      exact h4
    have hn : r.id ∉ ids L := by
      have h5 := hok.once
      rw [List.nodup_append] at h5
      intro hm
      have : r.id ∈ ids (addL 2 p r M) := ha.idp.mem_iff.2 (List.mem_cons_self ..)
      exact h5.2.2 _ hm _ this rfl
    have hw : whereB L (addL 2 p r M) r.id = (2, (i : Int), (k : Int)) := by
      have := ha.where_
      rw [whereB, if_neg (by have := whereL_neg.2 hn; omega), this, if_pos (by dsimp only; omega)]
    refine ⟨hok, h1, h2, by rw [show putL 2 p r L = L from rfl, show putM 2 p r M = addL 2 p r M from rfl, hw]; dsimp only; omega, fun s' i' k' x q hb => ?_, ?_⟩
    · have hb1 := hb.where_
      rw [show putL 2 p r L = L from rfl, show putM 2 p r M = addL 2 p r M from rfl, hw] at hb1
      simp only [Prod.mk.injEq] at hb1
      obtain ⟨rfl, _, _⟩ := hb1
      obtain ⟨e1, e2, e3⟩ := key ha hb.at_
      exact ⟨rfl, e1, e2, rfl, e3⟩
    · show cnt L + cnt (addL 2 p r M) = _
      rw [cnt_addL]; omega
/-- a book that is right has the best to buy below the best to sell -/
theorem BookOk.top {L M : List Lv} (h : BookOk L M) : bestL L = 0 ∨ bestL M = 0 ∨ bestL L < bestL M := by
  cases L with
  | nil => exact .inl rfl
  | cons a L =>
    cases M with
    | nil => exact .inr (.inl rfl)
    | cons b M => exact .inr (.inr (h.apart a (by simp) b (by simp)))
theorem BookOk.sizes {L M : List Lv} (h : BookOk L M) : (L.length ≤ maxLen ∧ ∀ x ∈ L, x.rs.length ≤ 1000) ∧ (M.length ≤ maxLen ∧ ∀ x ∈ M, x.rs.length ≤ 1000) := by
  have h1 := full_len h.buys.full; have h2 := full_len h.sells.full; have h3 := h.buys.few; have h4 := h.sells.few
  unfold maxLen
  exact ⟨⟨by omega, fun x hx => by have := len_cnt hx; omega⟩, ⟨by omega, fun x hx => by have := len_cnt hx; omega⟩⟩
end Go.Proofs.Ytbnjkcgkdpildaa
