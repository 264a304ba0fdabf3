/- What would meet another: plain. -/
import Derived.Test.YtbnjkcgkdpildaaDoorPutE
namespace Go.Proofs.YtbnjkcgkdpildaaDoor
set_option linter.all false
open Go Go.RowKit
def baR (k : Int) : Rest := ⟨k, k, 5, 0, 0⟩
theorem ba_rest : Rest.err (baR 1) = 0 ∧ Rest.err (baR 2) = 0 := ⟨err_mk (by simp [inb, baR]) (by simp [inb, baR]) (by simp [baR]) (by simp [baR]) (by simp [baR]) (by simp [baR]) (by simp [baR]) (by simp [baR]) (by simp [baR]) (by simp [baR]), err_mk (by simp [inb, baR]) (by simp [inb, baR]) (by simp [baR]) (by simp [baR]) (by simp [baR]) (by simp [baR]) (by simp [baR]) (by simp [baR]) (by simp [baR]) (by simp [baR])⟩
theorem ba_one (p : Int) : putE [] [] 2 p (baR 1) = if vp p = false then 1 else 0 := by
  have hb : bookE [] [] = 0 := by decide
  have ha : addE 2 (sidL 2 [] []) p (baR 1) = if vp p = false then 1 else 0 := by
    have hs : sideE 2 (sidL 2 [] []) = 0 := by decide
    have hw : ¬ (0 ≤ (whereL (sidL 2 [] []) (baR 1).id).1) := by decide
    have hc : ¬ (60 ≤ cnt (sidL 2 [] [])) := by decide
    rw [addE, hs, if_neg (by decide), ba_rest.1, if_neg (show ¬ ((0 : Int) ≠ 0) by decide), if_neg hw, if_neg hc]
  rw [putE, hb, ha, if_neg (by decide), if_neg (by decide)]
  cases vp p
  · rfl
  · rfl
def baM (p : Int) : List Lv := [⟨p, [baR 1]⟩]
theorem ba_side {p : Int} (hp : vp p = true) : SideOk 2 (baM p) := by
  refine ⟨by decide, fun x hx => ?_, fun x hx => ?_, fun x hx r hr' => ?_, ?_, by simp [baM, cnt], by simp [baM, ids]⟩
  · rw [baM, List.mem_singleton] at hx; subst hx; exact hp
  · rw [baM, List.mem_singleton] at hx; subst hx; simp
  · rw [baM, List.mem_singleton] at hx; subst hx
    rw [List.mem_singleton] at hr'
    subst hr'
    exact ba_rest.1
  · simp [baM]
theorem ba_two {p : Int} (hp : vp p = true) (q : Int) : putE [] (baM p) 1 q (baR 2) = if vp q = false then 1 else if p ≤ q then 8 else 0 := by
  have hb : bookE [] (baM p) = 0 := by
    rw [bookE_iff]
    exact ⟨⟨by decide, by simp, by simp, by simp, List.Pairwise.nil, by simp [cnt], by simp [ids]⟩, ba_side hp, by simp, by simp [baM, cnt], by simpa [ids] using (ba_side hp).once⟩
  have ha : addE 1 (sidL 1 [] (baM p)) q (baR 2) = if vp q = false then 1 else 0 := by
    have hs : sideE 1 (sidL 1 [] (baM p)) = 0 := by show sideE 1 [] = 0; decide
    have hw : ¬ (0 ≤ (whereL (sidL 1 [] (baM p)) (baR 2).id).1) := by show ¬ (0 ≤ (whereL [] 2).1); decide
    have hc : ¬ (60 ≤ cnt (sidL 1 [] (baM p))) := by show ¬ (60 ≤ cnt []); decide
    rw [addE, hs, if_neg (by decide), ba_rest.2, if_neg (show ¬ ((0 : Int) ≠ 0) by decide), if_neg hw, if_neg hc]
  rw [putE, hb, ha, if_neg (by decide), if_neg (by decide)]
  cases vp q
  · rfl
  · show wholeE [⟨q, [baR 2]⟩] (baM p) = if p ≤ q then 8 else 0
    have hx : crossB [⟨q, [baR 2]⟩] (baM p) = decide (p ≤ q) := rfl
    have ht : twice [] (ids ([⟨q, [baR 2]⟩] ++ baM p)) = false := rfl
    have hc : ¬ (60 < cnt [⟨q, [baR 2]⟩] + cnt (baM p)) := by show ¬ (60 < 1 + 1); decide
    rw [wholeE, hx, ht, if_neg hc, if_neg (show ¬ (false = true) by decide)]
    by_cases h : p ≤ q
    · simp [h]
    · simp [h]
end Go.Proofs.YtbnjkcgkdpildaaDoor
