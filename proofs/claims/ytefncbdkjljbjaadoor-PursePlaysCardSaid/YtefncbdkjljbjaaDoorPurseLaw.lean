/- Purses in plain words: what each step does to what all have. -/
import Derived.Test.YtefncbdkjljbjaaDoorPurse4
namespace Go.Proofs.YtefncbdkjljbjaaDoor
set_option linter.all false
open Go Go.RowKit
def WhoOk (S : Nat → Pur) : Prop := ∀ k, k < 10 → (S k).who = k
theorem cashOf_congr {S T : Nat → Pur} (h : ∀ i, i < 10 → S i = T i) : ∀ m, m ≤ 10 → cashOf S m = cashOf T m
  | 0, _ => rfl
  | m + 1, hm => by rw [cashOf_succ, cashOf_succ, cashOf_congr h m (by omega), h m (by omega)]
theorem stockOf_congr {S T : Nat → Pur} (h : ∀ i, i < 10 → S i = T i) : ∀ m, m ≤ 10 → stockOf S m = stockOf T m
  | 0, _ => rfl
  | m + 1, hm => by rw [stockOf_succ, stockOf_succ, stockOf_congr h m (by omega), h m (by omega)]
theorem cashOf_upd (S : Nat → Pur) (k : Nat) (p : Pur) : ∀ m, cashOf (upd S k p) m = cashOf S m + (if k < m then p.cash - (S k).cash else 0)
  | 0 => by simp [cashOf]
  | m + 1 => by
    rw [cashOf_succ, cashOf_succ, cashOf_upd S k p m]
    by_cases h : m = k
    · subst h; rw [upd_same, if_neg (by omega), if_pos (by omega)]; omega
    · rw [upd_other h]
      by_cases h2 : k < m
      · rw [if_pos h2, if_pos (by omega)]; omega
      · rw [if_neg h2, if_neg (by omega)]; omega
theorem stockOf_upd (S : Nat → Pur) (k : Nat) (p : Pur) : ∀ m, stockOf (upd S k p) m = stockOf S m + (if k < m then p.stock - (S k).stock else 0)
  | 0 => by simp [stockOf]
  | m + 1 => by
    rw [stockOf_succ, stockOf_succ, stockOf_upd S k p m]
    by_cases h : m = k
    · subst h; rw [upd_same, if_neg (by omega), if_pos (by omega)]; omega
    · rw [upd_other h]
      by_cases h2 : k < m
      · rw [if_pos h2, if_pos (by omega)]; omega
      · rw [if_neg h2, if_neg (by omega)]; omega
/-- all is right with them -/
structure PInv (S : Nat → Pur) : Prop where
  sound : PSound S
  who : WhoOk S
theorem PInv.upd {S : Nat → Pur} (h : PInv S) {k : Nat} {p : Pur} (hp : p.ok) (hw : p.who = k) : PInv (upd S k p) := by
  refine ⟨fun i hi => ?_, fun i hi => ?_⟩
  · by_cases e : i = k
    · subst e; rw [upd_same]; exact hp
    · rw [upd_other e]; exact h.sound i hi
  · by_cases e : i = k
    · subst e; rw [upd_same]; exact hw
    · rw [upd_other e]; exact h.who i hi
theorem PInv.congr {S T : Nat → Pur} (h : PInv S) (e : ∀ i, i < 10 → S i = T i) : PInv T :=
  ⟨fun i hi => e i hi ▸ h.sound i hi, fun i hi => e i hi ▸ h.who i hi⟩
/-- after a step: right, and so much more of each -/
def Step (S : Nat → Pur) (T : Nat → Pur) (c s : Int) : Prop := PInv T ∧ cashOf T 10 = cashOf S 10 + c ∧ stockOf T 10 = stockOf S 10 + s
theorem Step.same {S : Nat → Pur} (h : PInv S) : Step S S 0 0 := ⟨h, by omega, by omega⟩
theorem pay_step {S : Nat → Pur} (h : PInv S) (who n : Int) : Step S (payP S who n).2 (if (payP S who n).1 = 0 then n else 0) 0 := by
  unfold payP
  by_cases h1 : (inb who 1 9 && inb n 1 1000000000) = true
  · rw [if_pos h1]
    simp only [Bool.and_eq_true] at h1
    obtain ⟨k, rfl, hk1, hk2⟩ := inb_nat h1.1
    have hn : 1 ≤ n ∧ n ≤ 1000000000 := by simpa [inb] using h1.2
    obtain ⟨a1, a2, a3, a4, a5, a6⟩ := h.sound k hk2
    simp only [Int.toNat_natCast]
    by_cases h2 : 1000000000 - n < (S k).cash
    · rw [if_pos h2]; simpa using Step.same h
    · rw [if_neg h2]
      refine ⟨h.upd ⟨by dsimp only; omega, by dsimp only; omega, by dsimp only; omega, a4, a5, a6⟩ (h.who k hk2), ?_, ?_⟩
      · rw [cashOf_upd, if_pos hk2]; simp; omega
      · rw [stockOf_upd, if_pos hk2]; simp
  · rw [if_neg h1]; simpa using Step.same h
theorem give_step {S : Nat → Pur} (h : PInv S) (who n : Int) : Step S (giveP S who n).2 0 (if (giveP S who n).1 = 0 then n else 0) := by
  unfold giveP
  by_cases h1 : (inb who 1 9 && inb n 1 1000000000) = true
  · rw [if_pos h1]
    simp only [Bool.and_eq_true] at h1
    obtain ⟨k, rfl, hk1, hk2⟩ := inb_nat h1.1
    have hn : 1 ≤ n ∧ n ≤ 1000000000 := by simpa [inb] using h1.2
    obtain ⟨a1, a2, a3, a4, a5, a6⟩ := h.sound k hk2
    simp only [Int.toNat_natCast]
    by_cases h2 : 1000000000 - n < (S k).stock
    · rw [if_pos h2]; simpa using Step.same h
    · rw [if_neg h2]
      refine ⟨h.upd ⟨a1, a2, a3, a4, by dsimp only; omega, by dsimp only; omega⟩ (h.who k hk2), ?_, ?_⟩
      · rw [cashOf_upd, if_pos hk2]; simp
      · rw [stockOf_upd, if_pos hk2]; simp; omega
  · rw [if_neg h1]; simpa using Step.same h
theorem hold_step {S : Nat → Pur} (h : PInv S) (who c s : Int) : Step S (holdP S who c s).2 0 0 := by
  unfold holdP
  by_cases h1 : (inb who 1 9 && inb c 0 1000000000 && inb s 0 1000000000) = true
  · rw [if_pos h1]
    simp only [Bool.and_eq_true] at h1
    obtain ⟨k, rfl, hk1, hk2⟩ := inb_nat h1.1.1
    have hc : 0 ≤ c ∧ c ≤ 1000000000 := by simpa [inb] using h1.1.2
    have hs : 0 ≤ s ∧ s ≤ 1000000000 := by simpa [inb] using h1.2
    obtain ⟨a1, a2, a3, a4, a5, a6⟩ := h.sound k hk2
    simp only [Int.toNat_natCast]
    by_cases h2 : (S k).cash - (S k).held < c ∨ (S k).stock - (S k).hstock < s
    · rw [if_pos h2]; exact Step.same h
    · rw [if_neg h2]
      refine ⟨h.upd ⟨by dsimp only; omega, by dsimp only; omega, a3, by dsimp only; omega, by dsimp only; omega, a6⟩ (h.who k hk2), ?_, ?_⟩
      · rw [cashOf_upd, if_pos hk2]; simp
      · rw [stockOf_upd, if_pos hk2]; simp
  · rw [if_neg h1]; exact Step.same h
theorem free_step {S : Nat → Pur} (h : PInv S) (who c s : Int) : Step S (freeP S who c s).2 0 0 := by
  unfold freeP
  by_cases h1 : (inb who 1 9 && inb c 0 1000000000 && inb s 0 1000000000) = true
  · rw [if_pos h1]
    simp only [Bool.and_eq_true] at h1
    obtain ⟨k, rfl, hk1, hk2⟩ := inb_nat h1.1.1
    have hc : 0 ≤ c ∧ c ≤ 1000000000 := by simpa [inb] using h1.1.2
    have hs : 0 ≤ s ∧ s ≤ 1000000000 := by simpa [inb] using h1.2
    obtain ⟨a1, a2, a3, a4, a5, a6⟩ := h.sound k hk2
    simp only [Int.toNat_natCast]
    by_cases h2 : (S k).held < c ∨ (S k).hstock < s
    · rw [if_pos h2]; exact Step.same h
    · rw [if_neg h2]
      refine ⟨h.upd ⟨by dsimp only; omega, by dsimp only; omega, a3, by dsimp only; omega, by dsimp only; omega, a6⟩ (h.who k hk2), ?_, ?_⟩
      · rw [cashOf_upd, if_pos hk2]; simp
      · rw [stockOf_upd, if_pos hk2]; simp
  · rw [if_neg h1]; exact Step.same h
theorem moved_far {S : Nat → Pur} {a b : Nat} (hab : a ≠ b) (c q : Int) (i : Nat) :
    moved S a b c q i = upd (upd S a { S a with hstock := (S a).hstock - q, stock := (S a).stock - q, cash := (S a).cash + c }) b { S b with held := (S b).held - c, cash := (S b).cash - c, stock := (S b).stock + q } i := by
  unfold moved
  by_cases e1 : i = b
  · subst e1; simp [upd, Ne.symm hab]
  · by_cases e2 : i = a
    · subst e2; simp [upd, hab]
    · simp [upd, e1, e2]
theorem moved_self {S : Nat → Pur} {a : Nat} (c q : Int) (i : Nat) :
    moved S a a c q i = upd S a { S a with hstock := (S a).hstock - q, held := (S a).held - c } i := by
  unfold moved
  by_cases e2 : i = a
  · subst e2
    simp only [upd, if_true]
    congr 1 <;> omega
  · simp [upd, e2]
theorem trade_step {S : Nat → Pur} (h : PInv S) (f t p q : Int) : Step S (tradeP S f t p q).2 0 0 := by
  unfold tradeP
  by_cases h0 : (inb f 1 9 && inb t 1 9 && inb p 1 10000 && inb q 1 10000) = true
  · rw [if_pos h0]
    simp only [Bool.and_eq_true] at h0
    obtain ⟨⟨⟨hA, hB⟩, hp1⟩, hq1⟩ := h0
    obtain ⟨a, rfl, ha1, ha2⟩ := inb_nat hA
    obtain ⟨b, rfl, hb1, hb2⟩ := inb_nat hB
    have hp2 : 1 ≤ p ∧ p ≤ 10000 := by simpa [inb] using hp1
    have hq2 : 1 ≤ q ∧ q ≤ 10000 := by simpa [inb] using hq1
    have m1 : 0 ≤ p * q := Int.mul_nonneg (by omega) (by omega)
    simp only [Int.toNat_natCast]
    by_cases h1 : (S a).hstock < q ∨ (S b).held < p * q
    · rw [if_pos h1]; exact Step.same h
    · rw [if_neg h1]
      by_cases h2 : (a : Int) ≠ (b : Int) ∧ (1000000000 - p * q < (S a).cash ∨ 1000000000 - q < (S b).stock)
      · rw [if_pos h2]; exact Step.same h
      · rw [if_neg h2]
        generalize p * q = c at *
        obtain ⟨a1, a2, a3, a4, a5, a6⟩ := h.sound a ha2
        obtain ⟨b1, b2, b3, b4, b5, b6⟩ := h.sound b hb2
        dsimp only
        by_cases e : a = b
        · subst e
          refine ⟨(h.upd (k := a) (p := { S a with hstock := (S a).hstock - q, held := (S a).held - c }) ⟨by dsimp only; omega, by dsimp only; omega, a3, by dsimp only; omega, by dsimp only; omega, a6⟩ (h.who a ha2)).congr fun i _ => (moved_self c q i).symm, ?_, ?_⟩
          · rw [cashOf_congr (fun i _ => moved_self c q i) 10 (by omega), cashOf_upd, if_pos ha2]; simp
          · rw [stockOf_congr (fun i _ => moved_self c q i) 10 (by omega), stockOf_upd, if_pos ha2]; simp
        · have hu : PInv (upd S a { S a with hstock := (S a).hstock - q, stock := (S a).stock - q, cash := (S a).cash + c }) :=
            h.upd ⟨a1, by dsimp only; omega, by dsimp only; omega, by dsimp only; omega, by dsimp only; omega, by dsimp only; omega⟩ (h.who a ha2)
          refine ⟨(hu.upd (k := b) (p := { S b with held := (S b).held - c, cash := (S b).cash - c, stock := (S b).stock + q }) ⟨by dsimp only; omega, by dsimp only; omega, by dsimp only; omega, b4, by dsimp only; omega, by dsimp only; omega⟩ (h.who b hb2)).congr fun i _ => (moved_far e c q i).symm, ?_, ?_⟩
          · rw [cashOf_congr (fun i _ => moved_far e c q i) 10 (by omega), cashOf_upd, if_pos hb2, cashOf_upd, if_pos ha2, upd_other (Ne.symm e)]; simp; omega
          · rw [stockOf_congr (fun i _ => moved_far e c q i) 10 (by omega), stockOf_upd, if_pos hb2, stockOf_upd, if_pos ha2, upd_other (Ne.symm e)]; simp; omega
  · rw [if_neg h0]; exact Step.same h
theorem new_inv : PInv newP := ⟨fun k _ => by simp [Pur.ok, newP], fun _ _ => rfl⟩
theorem new_cash : cashOf newP 10 = 0 := by decide
theorem new_stock : stockOf newP 10 = 0 := by decide
end Go.Proofs.YtefncbdkjljbjaaDoor
