/- Plain laws of bars: joined, or at once. -/
import Derived.Test.YtefncbdkjljbjaaDoorBarsMk
import Derived.Test.YtefncbdkjljbjaaDoorBarsJoinC
import Derived.Test.YtefncbdkjljbjaaDoorBarsMean
namespace Go.Proofs.YtefncbdkjljbjaaDoor
set_option linter.all false
def okT4 (l : List Trade) : Prop := ∀ t ∈ l, (1 ≤ t.price ∧ t.price ≤ 10000) ∧ 1 ≤ t.qty ∧ t.qty ≤ 10000
theorem joinB_bar0 (b : Bar) : joinB bar0 b = b := rfl
theorem joinB_assoc (a b c : Bar) (ha : 0 ≤ a.q) (hb : 1 ≤ b.q) : joinB a (joinB b c) = joinB (joinB a b) c := by
  have hb' : b.q ≠ 0 := by omega
  by_cases h : a.q = 0
  · simp [joinB, h, hb']
  · have h2 : a.q + b.q ≠ 0 := by omega
    simp [joinB, h, hb', h2, Int.max_assoc, Int.min_assoc, Int.add_assoc]
theorem foldB_append (l : List Bar) (b : Bar) : foldB (l ++ [b]) = joinB (foldB l) b := by simp [foldB]
/-- all trades as one bar -/
def allB (l : List Trade) : Bar := foldB (l.map tbar)
theorem allB_snoc {l : List Trade} {k : Nat} {t : Trade} (h : l[k]? = some t) : allB (l.take (k + 1)) = joinB (allB (l.take k)) (tbar t) := by
  rw [List.take_add_one, h]; simp [allB, foldB]
/-- a bar whose numbers are right, of at most m -/
def goodB (m : Int) (b : Bar) : Prop := 1 ≤ b.l ∧ b.l ≤ b.h ∧ (b.l ≤ b.o ∧ b.o ≤ b.h) ∧ (b.l ≤ b.c ∧ b.c ≤ b.h) ∧ 1 ≤ b.q ∧ b.q ≤ m
theorem goodB_mono {m n : Int} {b : Bar} (h : goodB m b) (hm : m ≤ n) : goodB n b := ⟨h.1, h.2.1, h.2.2.1, h.2.2.2.1, h.2.2.2.2.1, by have := h.2.2.2.2.2; omega⟩
theorem goodB_tbar {t : Trade} (h : (1 ≤ t.price ∧ t.price ≤ 10000) ∧ 1 ≤ t.qty ∧ t.qty ≤ 10000) : goodB 10000 (tbar t) := by
  simp only [goodB, tbar]; omega
theorem goodB_join {m : Int} {a b : Bar} (ha : goodB m a) (hb : goodB 10000 b) : goodB (m + 10000) (joinB a b) := by
  unfold goodB at *
  have : a.q ≠ 0 := by omega
  simp only [joinB, if_neg this]
  omega
theorem barsTo_good {n : Nat} {l : List Trade} (hok : okT4 l) : ∀ k, ∀ b ∈ barsTo n l k, goodB (10000 * k) b := by
  intro k
  induction k with
  | zero => simp [barsTo]
  | succ k ih =>
    intro b hb
    unfold barsTo at hb
    cases ht : l[k]? with
    | none => rw [ht] at hb; exact goodB_mono (ih b hb) (by omega)
    | some t =>
      rw [ht] at hb
      have hg := goodB_tbar (hok t (List.mem_of_getElem? ht))
      simp only [addBar, lastJoin] at hb
      by_cases hm : k % n = 0
      · rw [if_pos hm] at hb
        simp only [List.getLast?_append, List.getLast?_singleton, Option.some_or, List.dropLast_concat, joinB_bar0] at hb
        rcases List.mem_append.1 hb with h | h
        · exact goodB_mono (ih b h) (by omega)
        · simp at h; subst h; exact goodB_mono hg (by omega)
      · rw [if_neg hm] at hb
        cases hl : (barsTo n l k).getLast? with
        | none => rw [hl] at hb; simp at hb
        | some c =>
          rw [hl] at hb
          rcases List.mem_append.1 hb with h | h
          · exact goodB_mono (ih b (List.dropLast_subset _ h)) (by omega)
          · simp at h; subst h
            exact goodB_mono (goodB_join (ih c (List.mem_of_getLast? hl)) hg) (by omega)
theorem foldB_ge {l : List Bar} (h : ∀ b ∈ l, 1 ≤ b.q) : 0 ≤ (foldB l).q := by
  unfold foldB
  suffices H : ∀ (l : List Bar) (a : Bar), 0 ≤ a.q → (∀ b ∈ l, 1 ≤ b.q) → 0 ≤ (l.foldl joinB a).q from H l bar0 (by decide) h
  intro l
  induction l with
  | nil => intro a ha _; exact ha
  | cons x l ih =>
    intro a ha hl
    rw [List.foldl_cons]
    refine ih _ ?_ (fun b hb => hl b (List.mem_cons_of_mem _ hb))
    have := hl x List.mem_cons_self
    unfold joinB
    split
    · omega
    · simp only []; omega
/-- JOINED, OR AT ONCE -/
theorem fold_barsTo {n : Nat} {l : List Trade} (hok : okT4 l) (k : Nat) (hk : k ≤ l.length) : foldB (barsTo n l k) = allB (l.take k) := by
  induction k with
  | zero => rfl
  | succ k ih =>
    have ht := List.getElem?_eq_getElem (show k < l.length by omega)
    rw [barsTo_succ ht, allB_snoc ht, ← ih (by omega)]
    by_cases hm : k % n = 0
    · rw [addBar_new hm, foldB_append, joinB_bar0]
    · obtain ⟨pre, last, hL⟩ : ∃ pre last, barsTo n l k = pre ++ [last] := by
        cases k with
        | zero => simp at hm
        | succ k => exact ⟨_, _, (List.dropLast_concat_getLast (barsTo_ne (by omega))).symm⟩
      have hg := barsTo_good (n := n) hok k
      rw [hL] at hg ⊢
      rw [addBar_old hm, foldB_append, foldB_append]
      exact joinB_assoc _ _ _ (foldB_ge fun b hb => (hg b (by simp [hb])).2.2.2.2.1) (hg last (by simp)).2.2.2.2.1
theorem barsTo_one {l : List Trade} (k : Nat) (hk : k + 1 ≤ l.length) : barsTo l.length l (k + 1) = [allB (l.take (k + 1))] := by
  induction k with
  | zero =>
    have ht := List.getElem?_eq_getElem (show 0 < l.length by omega)
    rw [barsTo_succ ht, addBar_new (by simp), allB_snoc ht]
    rfl
  | succ k ih =>
    have ht := List.getElem?_eq_getElem (show k + 1 < l.length by omega)
    rw [barsTo_succ ht, ih (by omega), allB_snoc ht]
    exact addBar_old (L := []) (by rw [Nat.mod_eq_of_lt (by omega)]; omega)
/-- what the bar of all says -/
theorem allB_says {l : List Trade} (hok : okT4 l) (k : Nat) (hk : k + 1 ≤ l.length) :
    (allB (l.take (k + 1))).l = lowOf (l.take (k + 1)) ∧ (allB (l.take (k + 1))).h = highOf (l.take (k + 1)) ∧ some (allB (l.take (k + 1))).o = (l[0]?).map Trade.price ∧ some (allB (l.take (k + 1))).c = (l[k]?).map Trade.price ∧ (allB (l.take (k + 1))).q = qtys (l.take (k + 1)) ∧ 1 ≤ qtys (l.take (k + 1)) := by
  induction k with
  | zero =>
    have ht := List.getElem?_eq_getElem (show 0 < l.length by omega)
    have := hok l[0] (List.getElem_mem _)
    rw [allB_snoc ht, low_snoc ht, high_snoc ht, qtys_snoc ht, ht]
    simp [allB, foldB, joinB, bar0, tbar, lowOf, highOf, qtys]
    omega
  | succ k ih =>
    have ht := List.getElem?_eq_getElem (show k + 1 < l.length by omega)
    obtain ⟨a1, a2, a3, a4, a5, a6⟩ := ih (by omega)
    have := hok l[k + 1] (List.getElem_mem _)
    rw [allB_snoc ht, low_snoc ht, high_snoc ht, qtys_snoc ht, ht]
    have hq : (allB (l.take (k + 1))).q ≠ 0 := by omega
    simp only [joinB, if_neg hq, tbar, Option.map_some]
    exact ⟨by rw [a1], by rw [a2], a3, trivial, by rw [a5], by omega⟩
theorem mean_between {l : List Trade} (hok : okT4 l) (k : Nat) (hk : k ≤ l.length) :
    lowOf (l.take k) * qtys (l.take k) ≤ worth (l.take k) ∧ worth (l.take k) ≤ highOf (l.take k) * qtys (l.take k) ∧ 0 ≤ qtys (l.take k) := by
  induction k with
  | zero => simp [worth, qtys]
  | succ k ih =>
    have ht := List.getElem?_eq_getElem (show k < l.length by omega)
    obtain ⟨a1, a2, a3⟩ := ih (by omega)
    have hb := hok l[k] (List.getElem_mem _)
    rw [low_snoc ht, high_snoc ht, qtys_snoc ht, worth_snoc ht]
    generalize lowOf (l.take k) = lo at *
    generalize highOf (l.take k) = hi at *
    generalize qtys (l.take k) = q at *
    generalize worth (l.take k) = wo at *
    generalize l[k].price = p at *
    generalize l[k].qty = s at *
    have b1 : min lo p * q ≤ lo * q := Int.mul_le_mul_of_nonneg_right (by omega) a3
    have b2 : min lo p * s ≤ p * s := Int.mul_le_mul_of_nonneg_right (by omega) (by omega)
    have b3 : hi * q ≤ max hi p * q := Int.mul_le_mul_of_nonneg_right (by omega) a3
    have b4 : p * s ≤ max hi p * s := Int.mul_le_mul_of_nonneg_right (by omega) (by omega)
    rw [Int.mul_add, Int.mul_add]
    omega
theorem mean_in {l : List Trade} (hok : okT4 l) (h : 1 ≤ l.length) : lowOf l ≤ worth l / qtys l ∧ worth l / qtys l ≤ highOf l := by
  obtain ⟨a1, a2, _⟩ := mean_between hok l.length (Nat.le_refl _)
  obtain ⟨_, _, _, _, _, a6⟩ := allB_says hok (l.length - 1) (by omega)
  rw [show l.length - 1 + 1 = l.length by omega] at a6
  rw [List.take_length] at a1 a2 a6
  refine ⟨(Int.le_ediv_iff_mul_le (by omega)).2 a1, ?_⟩
  have : worth l / qtys l < highOf l + 1 := Int.ediv_lt_of_lt_mul (by omega) (by rw [Int.add_mul]; omega)
  omega
end Go.Proofs.YtefncbdkjljbjaaDoor
