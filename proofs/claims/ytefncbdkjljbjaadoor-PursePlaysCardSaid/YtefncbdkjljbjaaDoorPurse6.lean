/- Trade: where there would be too much. -/
import Derived.Test.YtefncbdkjljbjaaDoorPurse4
namespace Go.Proofs.YtefncbdkjljbjaaDoor
set_option linter.all false
open Go Go.RowKit
set_option maxHeartbeats 4000000 in
theorem trade_full1 (S : Nat → Pur) (g a b : Nat) (mk tk p q : Int) (w : World) (hp : Pm w g S) (ha2 : a < 10) (hb2 : b < 10) (hab : a ≠ b) (hp1 : inb p 1 10000 = true) (hq1 : inb q 1 10000 = true) (hA : inb a 1 9 = true) (hB : inb b 1 9 = true)
    (h1 : q ≤ (S a).hstock) (h2 : p * q ≤ (S b).held) (h3 : 1000000000 - p * q < (S a).cash) :
    Calls Tryd.prog 27 #[.pointer (some ⟨g, 0, none⟩), .agg #[.int .i64 mk, .int .i64 tk, .int .i64 a, .int .i64 b, .int .i64 p, .int .i64 q]] w (PurPost (4, S) g w) := by
  have HP := Lib.hid hp
  obtain ⟨a0, a1, a2, a3, a4⟩ := hp.five ha2
  obtain ⟨b0, b1, b2, b3, b4⟩ := hp.five hb2
  have hp2 : 1 ≤ p ∧ p ≤ 10000 := by simpa [inb] using hp1
  have hq2 : 1 ≤ q ∧ q ≤ 10000 := by simpa [inb] using hq1
  obtain ⟨p1, p2⟩ := hp2
  obtain ⟨q1, q2⟩ := hq2
  have m1 : 0 ≤ p * q := Int.mul_nonneg (by omega) (by omega)
  have m2 : p * q ≤ 10000 * 10000 := Int.mul_le_mul p2 q2 (by omega) (by omega)
  have i0 : (0 : Int) ≤ (a : Int) := by omega
  have i1 : (a : Int) < 10 := by omega
  have j0 : (0 : Int) ≤ (b : Int) := by omega
  have j1 : (b : Int) < 10 := by omega
  have g1 : decide ((S a).hstock < q) = false := by simp; omega
  have g2 : decide ((S b).held < p * q) = false := by simp; omega
  have g5 : ((a : Int) == (b : Int)) = false := by simp; omega
  have g6 : (a : Int) ≠ (b : Int) := by omega
  have g7 : ((a : Int) != (b : Int)) = true := bne_iff_ne.2 g6
  have hgl := hp.lt
  clear hp hab
  obtain ⟨Y, hY⟩ : ∃ Y : Int, Y = 1000000000 - p * q := ⟨_, rfl⟩
  obtain ⟨Z, hZ⟩ : ∃ Z : Int, Z = 1000000000 - q := ⟨_, rfl⟩
  have x1 : IntKind.i64.wrap (1000000000 - p * q) = Y := by rw [hY]; exact IntWalk.i64_in _ (by omega)
  have x2 : IntKind.i64.wrap (1000000000 - q) = Z := by rw [hZ]; exact IntWalk.i64_in _ (by omega)
  have y1 : Y < (S a).cash := by omega
  clear h3 hY hZ
  have X1 := Lib.hid x1; have X2 := Lib.hid x2; clear x1 x2
  go_enter Tryd.func27, Tryd.ntmps27
  go_wp2_with (first | (go_at_call 62; refine (who_any _ _).mono ?_; rintro e w' ⟨rfl, rfl⟩) | (go_at_call 70; refine (valid_any _ _).mono ?_; rintro e w' ⟨rfl, rfl⟩) | (go_at_call 71; refine (qty_any _ _).mono ?_; rintro e w' ⟨rfl, rfl⟩))
  go_quiet (fail)
  go_wp2
  go_quiet (fail)
  go_wp2
  have x1 := X1.out
  have x2 := X2.out
  go_quiet (fail)
  clear x1 x2
  go_wp2
  go_ret
  exact ⟨rfl, by repeat (first | (with_reducible exact HP.out) | (with_reducible refine Pm.drewN ?_ _) | (with_reducible refine Pm.alloc ?_ _)), by repeat (first | (with_reducible exact grown_refl _ _) | (with_reducible refine grown_drewN ?_ _) | (with_reducible refine grown_alloc ?_ _))⟩
set_option maxHeartbeats 4000000 in
theorem trade_full2 (S : Nat → Pur) (g a b : Nat) (mk tk p q : Int) (w : World) (hp : Pm w g S) (ha2 : a < 10) (hb2 : b < 10) (hab : a ≠ b) (hp1 : inb p 1 10000 = true) (hq1 : inb q 1 10000 = true) (hA : inb a 1 9 = true) (hB : inb b 1 9 = true)
    (h1 : q ≤ (S a).hstock) (h2 : p * q ≤ (S b).held) (h3 : (S a).cash ≤ 1000000000 - p * q) (h4 : 1000000000 - q < (S b).stock) :
    Calls Tryd.prog 27 #[.pointer (some ⟨g, 0, none⟩), .agg #[.int .i64 mk, .int .i64 tk, .int .i64 a, .int .i64 b, .int .i64 p, .int .i64 q]] w (PurPost (4, S) g w) := by
  have HP := Lib.hid hp
  obtain ⟨a0, a1, a2, a3, a4⟩ := hp.five ha2
  obtain ⟨b0, b1, b2, b3, b4⟩ := hp.five hb2
  have hp2 : 1 ≤ p ∧ p ≤ 10000 := by simpa [inb] using hp1
  have hq2 : 1 ≤ q ∧ q ≤ 10000 := by simpa [inb] using hq1
  obtain ⟨p1, p2⟩ := hp2
  obtain ⟨q1, q2⟩ := hq2
  have m1 : 0 ≤ p * q := Int.mul_nonneg (by omega) (by omega)
  have m2 : p * q ≤ 10000 * 10000 := Int.mul_le_mul p2 q2 (by omega) (by omega)
  have i0 : (0 : Int) ≤ (a : Int) := by omega
  have i1 : (a : Int) < 10 := by omega
  have j0 : (0 : Int) ≤ (b : Int) := by omega
  have j1 : (b : Int) < 10 := by omega
  have g1 : decide ((S a).hstock < q) = false := by simp; omega
  have g2 : decide ((S b).held < p * q) = false := by simp; omega
  have g5 : ((a : Int) == (b : Int)) = false := by simp; omega
  have g6 : (a : Int) ≠ (b : Int) := by omega
  have g7 : ((a : Int) != (b : Int)) = true := bne_iff_ne.2 g6
  have hgl := hp.lt
  clear hp hab
  obtain ⟨Y, hY⟩ : ∃ Y : Int, Y = 1000000000 - p * q := ⟨_, rfl⟩
  obtain ⟨Z, hZ⟩ : ∃ Z : Int, Z = 1000000000 - q := ⟨_, rfl⟩
  have x1 : IntKind.i64.wrap (1000000000 - p * q) = Y := by rw [hY]; exact IntWalk.i64_in _ (by omega)
  have x2 : IntKind.i64.wrap (1000000000 - q) = Z := by rw [hZ]; exact IntWalk.i64_in _ (by omega)
  have y1 : decide (Y < (S a).cash) = false := decide_eq_false (by omega)
  have y2 : Z < (S b).stock := by omega
  clear h3 h4 hY hZ
  have X1 := Lib.hid x1; have X2 := Lib.hid x2; clear x1 x2
  go_enter Tryd.func27, Tryd.ntmps27
  go_wp2_with (first | (go_at_call 62; refine (who_any _ _).mono ?_; rintro e w' ⟨rfl, rfl⟩) | (go_at_call 70; refine (valid_any _ _).mono ?_; rintro e w' ⟨rfl, rfl⟩) | (go_at_call 71; refine (qty_any _ _).mono ?_; rintro e w' ⟨rfl, rfl⟩))
  go_quiet (fail)
  go_wp2
  go_quiet (fail)
  go_wp2
  have x1 := X1.out
  have x2 := X2.out
  go_quiet (fail)
  clear x1 x2
  go_wp2
  go_ret
  exact ⟨rfl, by repeat (first | (with_reducible exact HP.out) | (with_reducible refine Pm.drewN ?_ _) | (with_reducible refine Pm.alloc ?_ _)), by repeat (first | (with_reducible exact grown_refl _ _) | (with_reducible refine grown_drewN ?_ _) | (with_reducible refine grown_alloc ?_ _))⟩
end Go.Proofs.YtefncbdkjljbjaaDoor
