/- The contract of Trade, whatever comes. -/
import Derived.Test.YtefncbdkjljbjaaDoorPurse4
namespace Go.Proofs.YtefncbdkjljbjaaDoor
set_option linter.all false
open Go Go.RowKit
theorem vp_inb (p : Int) : vp p = inb p 1 10000 := rfl
set_option maxHeartbeats 4000000 in
theorem trade_range (S : Nat → Pur) (g : Nat) (mk tk f t p q : Int) (w : World) (hp : Pm w g S) (h : (inb f 1 9 && inb t 1 9 && inb p 1 10000 && inb q 1 10000) = false) :
    Calls Tryd.prog 27 #[.pointer (some ⟨g, 0, none⟩), .agg #[.int .i64 mk, .int .i64 tk, .int .i64 f, .int .i64 t, .int .i64 p, .int .i64 q]] w (PurPost (1, S) g w) := by
  have HP := Lib.hid hp; clear hp
  rcases (show inb f 1 9 = false ∨ (inb f 1 9 = true ∧ inb t 1 9 = false) ∨ (inb f 1 9 = true ∧ inb t 1 9 = true ∧ inb p 1 10000 = false) ∨ (inb f 1 9 = true ∧ inb t 1 9 = true ∧ inb p 1 10000 = true ∧ inb q 1 10000 = false) by revert h; cases inb f 1 9 <;> cases inb t 1 9 <;> cases inb p 1 10000 <;> cases inb q 1 10000 <;> simp) with a | ⟨a, b⟩ | ⟨a, b, c⟩ | ⟨a, b, c, d⟩
  all_goals
    clear h
    try rw [← vp_inb] at c
    go_enter Tryd.func27, Tryd.ntmps27
    go_wp2_with (first | (go_at_call 62; refine (who_any _ _).mono ?_; rintro e w' ⟨rfl, rfl⟩) | (go_at_call 70; refine (valid_any _ _).mono ?_; rintro e w' ⟨rfl, rfl⟩) | (go_at_call 71; refine (qty_any _ _).mono ?_; rintro e w' ⟨rfl, rfl⟩))
    go_ret
    exact ⟨rfl, by repeat (first | (with_reducible exact HP.out) | (with_reducible refine Pm.drewN ?_ _) | (with_reducible refine Pm.alloc ?_ _)), by repeat (first | (with_reducible exact grown_refl _ _) | (with_reducible refine grown_drewN ?_ _) | (with_reducible refine grown_alloc ?_ _))⟩
set_option maxHeartbeats 4000000 in
theorem trade_poor (S : Nat → Pur) (g a b : Nat) (mk tk p q : Int) (w : World) (hp : Pm w g S) (ha2 : a < 10) (hb2 : b < 10) (hp1 : inb p 1 10000 = true) (hq1 : inb q 1 10000 = true) (hA : inb a 1 9 = true) (hB : inb b 1 9 = true)
    (h : (S a).hstock < q ∨ (S b).held < p * q) :
    Calls Tryd.prog 27 #[.pointer (some ⟨g, 0, none⟩), .agg #[.int .i64 mk, .int .i64 tk, .int .i64 a, .int .i64 b, .int .i64 p, .int .i64 q]] w (PurPost (9, S) g w) := by
  have HP := Lib.hid hp
  obtain ⟨a0, a1, a2, a3, a4⟩ := hp.five ha2
  obtain ⟨b0, b1, b2, b3, b4⟩ := hp.five hb2
  have hp2 : 1 ≤ p ∧ p ≤ 10000 := by simpa [inb] using hp1
  have hq2 : 1 ≤ q ∧ q ≤ 10000 := by simpa [inb] using hq1
  obtain ⟨p1, p2⟩ := hp2
  obtain ⟨q1, q2⟩ := hq2
  have m1 : 0 ≤ p * q := Int.mul_nonneg (by omega) (by omega)
  have m2 : p * q ≤ 10000 * 10000 := Int.mul_le_mul p2 q2 (by omega) (by omega)
  have i0 : (0 : Int) ≤ (a : Int) := by omega
  have i1 : (a : Int) < 10 := by omega
  have j0 : (0 : Int) ≤ (b : Int) := by omega
  have j1 : (b : Int) < 10 := by omega
  have hgl := hp.lt
  clear hp
  by_cases h1 : (S a).hstock < q
  · clear h
    go_enter Tryd.func27, Tryd.ntmps27
    go_wp2_with (first | (go_at_call 62; refine (who_any _ _).mono ?_; rintro e w' ⟨rfl, rfl⟩) | (go_at_call 70; refine (valid_any _ _).mono ?_; rintro e w' ⟨rfl, rfl⟩) | (go_at_call 71; refine (qty_any _ _).mono ?_; rintro e w' ⟨rfl, rfl⟩))
    go_quiet (fail)
    go_wp2
    go_quiet (fail)
    go_wp2
    go_ret
    exact ⟨rfl, by repeat (first | (with_reducible exact HP.out) | (with_reducible refine Pm.drewN ?_ _) | (with_reducible refine Pm.alloc ?_ _)), by repeat (first | (with_reducible exact grown_refl _ _) | (with_reducible refine grown_drewN ?_ _) | (with_reducible refine grown_alloc ?_ _))⟩
  · have h2 : (S b).held < p * q := by simpa [h1] using h
    have g1 : decide ((S a).hstock < q) = false := by simp; omega
    clear h h1
    go_enter Tryd.func27, Tryd.ntmps27
    go_wp2_with (first | (go_at_call 62; refine (who_any _ _).mono ?_; rintro e w' ⟨rfl, rfl⟩) | (go_at_call 70; refine (valid_any _ _).mono ?_; rintro e w' ⟨rfl, rfl⟩) | (go_at_call 71; refine (qty_any _ _).mono ?_; rintro e w' ⟨rfl, rfl⟩))
    go_quiet (fail)
    go_wp2
    go_quiet (fail)
    go_wp2
    go_ret
    exact ⟨rfl, by repeat (first | (with_reducible exact HP.out) | (with_reducible refine Pm.drewN ?_ _) | (with_reducible refine Pm.alloc ?_ _)), by repeat (first | (with_reducible exact grown_refl _ _) | (with_reducible refine grown_drewN ?_ _) | (with_reducible refine grown_alloc ?_ _))⟩
end Go.Proofs.YtefncbdkjljbjaaDoor
