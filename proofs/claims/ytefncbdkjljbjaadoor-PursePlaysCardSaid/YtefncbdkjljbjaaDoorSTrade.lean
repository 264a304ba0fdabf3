/- The reference's purses: the contract of Trade. -/
import Derived.Test.YtefncbdkjljbjaaDoorSPurse
import Derived.Test.YtefncbdkjljbjaaDoorPurse7
namespace Go.Proofs.YtefncbdkjljbjaaDoor
set_option linter.all false
open Go Go.RowKit
set_option maxRecDepth 100000 in
set_option maxHeartbeats 1000000 in
theorem strade_range (S : Nat → Pur) (g : Nat) (mk tk f t p q : Int) (w : World) (hp : Pq w g S) (h : (inb f 1 9 && inb t 1 9 && inb p 1 10000 && inb q 1 10000) = false) :
    Calls Tryd.prog 26 #[.pointer (some ⟨g, 0, none⟩), .agg #[.int .i64 mk, .int .i64 tk, .int .i64 f, .int .i64 t, .int .i64 p, .int .i64 q]] w (QPost (1, S) g w) := by
  have HP := Lib.hid hp; clear hp
  rw [← vp_inb] at h
  have hi : inb q 1 10000 = decide (¬ (q < 1 ∨ 10000 < q)) := by unfold inb; congr 1; rw [eq_iff_iff]; omega
  rw [hi] at h
  clear hi
  rcases (show inb f 1 9 = false ∨ (inb f 1 9 = true ∧ inb t 1 9 = false) ∨ (inb f 1 9 = true ∧ inb t 1 9 = true ∧ vp p = false) ∨ (inb f 1 9 = true ∧ inb t 1 9 = true ∧ vp p = true ∧ q < 1) ∨ (inb f 1 9 = true ∧ inb t 1 9 = true ∧ vp p = true ∧ 1 ≤ q ∧ 10000 < q) by revert h; cases inb f 1 9 <;> cases inb t 1 9 <;> cases vp p <;> simp; omega) with a | ⟨a, b⟩ | ⟨a, b, c⟩ | ⟨a, b, c, d⟩ | ⟨a, b, c, d, e⟩
  all_goals
    clear h
    go_enter Tryd.func26, Tryd.ntmps26
    go_wp2_with (first | (go_at_call 69; refine (swho_any _ _).mono ?_; rintro e w' ⟨rfl, rfl⟩) | (go_at_call 37; refine (rprice_any _ _).mono ?_; rintro e w' ⟨rfl, rfl⟩))
    go_ret
    exact ⟨rfl, by repeat (first | (with_reducible exact HP.out) | (with_reducible refine Pq.drewN ?_ _) | (with_reducible refine Pq.alloc ?_ _)), by repeat (first | (with_reducible exact grown_refl _ _) | (with_reducible refine grown_drewN ?_ _) | (with_reducible refine grown_alloc ?_ _))⟩
set_option maxRecDepth 100000 in
set_option maxHeartbeats 2000000 in
theorem strade_poor (S : Nat → Pur) (g a b : Nat) (mk tk p q : Int) (w : World) (hp : Pq w g S) (hs : PSound S) (ha2 : a < 10) (hb2 : b < 10) (hp1 : inb p 1 10000 = true) (hq1 : inb q 1 10000 = true) (hA : inb a 1 9 = true) (hB : inb b 1 9 = true)
    (h : (S a).hstock < q ∨ (S b).held < p * q) :
    Calls Tryd.prog 26 #[.pointer (some ⟨g, 0, none⟩), .agg #[.int .i64 mk, .int .i64 tk, .int .i64 a, .int .i64 b, .int .i64 p, .int .i64 q]] w (QPost (9, S) g w) := by
  have HP := Lib.hid hp
  obtain ⟨xa, a0, a1, a2, a3, a4⟩ := hp.five ha2
  obtain ⟨xb, b0, b1, b2, b3, b4⟩ := hp.five hb2
  obtain ⟨s1, s2, s3, s4, s5, s6⟩ := hs a ha2
  obtain ⟨t1, t2, t3, t4, t5, t6⟩ := hs b hb2
  have hp2 : 1 ≤ p ∧ p ≤ 10000 := by simpa [inb] using hp1
  have hq2 : 1 ≤ q ∧ q ≤ 10000 := by simpa [inb] using hq1
  obtain ⟨p1, p2⟩ := hp2
  obtain ⟨q1, q2⟩ := hq2
  rw [← vp_inb] at hp1
  have m1 : 0 ≤ p * q := Int.mul_nonneg (by omega) (by omega)
  have m2 : p * q ≤ 10000 * 10000 := Int.mul_le_mul p2 q2 (by omega) (by omega)
  have i0 : (0 : Int) ≤ (a : Int) := by omega
  have i1 : (a : Int) < 10 := by omega
  have j0 : (0 : Int) ≤ (b : Int) := by omega
  have j1 : (b : Int) < 10 := by omega
  have hgl := hp.lt
  clear hp hs
  by_cases h1 : (S a).hstock < q
  · clear h
    go_enter Tryd.func26, Tryd.ntmps26
    go_wp2_with (first | (go_at_call 69; refine (swho_any _ _).mono ?_; rintro e w' ⟨rfl, rfl⟩) | (go_at_call 37; refine (rprice_any _ _).mono ?_; rintro e w' ⟨rfl, rfl⟩))
    go_quiet (fail)
    go_wp2
    go_ret
    exact ⟨rfl, by repeat (first | (with_reducible exact HP.out) | (with_reducible refine Pq.drewN ?_ _) | (with_reducible refine Pq.alloc ?_ _)), by repeat (first | (with_reducible exact grown_refl _ _) | (with_reducible refine grown_drewN ?_ _) | (with_reducible refine grown_alloc ?_ _))⟩
  · have h2 : (S b).held < p * q := by simpa [h1] using h
    have g1 : decide ((S a).hstock < q) = false := by simp; omega
    clear h h1
    go_enter Tryd.func26, Tryd.ntmps26
    go_wp2_with (first | (go_at_call 69; refine (swho_any _ _).mono ?_; rintro e w' ⟨rfl, rfl⟩) | (go_at_call 37; refine (rprice_any _ _).mono ?_; rintro e w' ⟨rfl, rfl⟩))
    go_quiet (fail)
    go_wp2
    go_ret
    exact ⟨rfl, by repeat (first | (with_reducible exact HP.out) | (with_reducible refine Pq.drewN ?_ _) | (with_reducible refine Pq.alloc ?_ _)), by repeat (first | (with_reducible exact grown_refl _ _) | (with_reducible refine grown_drewN ?_ _) | (with_reducible refine grown_alloc ?_ _))⟩
set_option maxRecDepth 100000 in
set_option maxHeartbeats 2000000 in
theorem strade_full1 (S : Nat → Pur) (g a b : Nat) (mk tk p q : Int) (w : World) (hp : Pq w g S) (hs : PSound S) (ha2 : a < 10) (hb2 : b < 10) (hab : a ≠ b) (hp1 : inb p 1 10000 = true) (hq1 : inb q 1 10000 = true) (hA : inb a 1 9 = true) (hB : inb b 1 9 = true)
    (h1 : q ≤ (S a).hstock) (h2 : p * q ≤ (S b).held) (h3 : 1000000000 - p * q < (S a).cash) :
    Calls Tryd.prog 26 #[.pointer (some ⟨g, 0, none⟩), .agg #[.int .i64 mk, .int .i64 tk, .int .i64 a, .int .i64 b, .int .i64 p, .int .i64 q]] w (QPost (4, S) g w) := by
  have HP := Lib.hid hp
  obtain ⟨xa, a0, a1, a2, a3, a4⟩ := hp.five ha2
  obtain ⟨xb, b0, b1, b2, b3, b4⟩ := hp.five hb2
  obtain ⟨s1, s2, s3, s4, s5, s6⟩ := hs a ha2
  obtain ⟨t1, t2, t3, t4, t5, t6⟩ := hs b hb2
  have hp2 : 1 ≤ p ∧ p ≤ 10000 := by simpa [inb] using hp1
  have hq2 : 1 ≤ q ∧ q ≤ 10000 := by simpa [inb] using hq1
  obtain ⟨p1, p2⟩ := hp2
  obtain ⟨q1, q2⟩ := hq2
  rw [← vp_inb] at hp1
  have m1 : 0 ≤ p * q := Int.mul_nonneg (by omega) (by omega)
  have m2 : p * q ≤ 10000 * 10000 := Int.mul_le_mul p2 q2 (by omega) (by omega)
  have i0 : (0 : Int) ≤ (a : Int) := by omega
  have i1 : (a : Int) < 10 := by omega
  have j0 : (0 : Int) ≤ (b : Int) := by omega
  have j1 : (b : Int) < 10 := by omega
  have hgl := hp.lt
  have g1 : decide ((S a).hstock < q) = false := by simp; omega
  have g2 : decide ((S b).held < p * q) = false := by simp; omega
  have g5 : ((a : Int) == (b : Int)) = false := by simp; omega
  have g6 : (a : Int) ≠ (b : Int) := by omega
  have g7 : ((a : Int) != (b : Int)) = true := bne_iff_ne.2 g6
  clear hp hab
  obtain ⟨Y, hY⟩ : ∃ Y : Int, Y = (S a).cash + p * q := ⟨_, rfl⟩
  obtain ⟨Z, hZ⟩ : ∃ Z : Int, Z = (S b).stock + q := ⟨_, rfl⟩
  have x1 : IntKind.i64.wrap ((S a).cash + p * q) = Y := by rw [hY]; exact IntWalk.i64_in _ (by omega)
  have x2 : IntKind.i64.wrap ((S b).stock + q) = Z := by rw [hZ]; exact IntWalk.i64_in _ (by omega)
  have y1 : 1000000000 < Y := by omega
  clear h3 hY hZ
  clear hs
  have X1 := Lib.hid x1; have X2 := Lib.hid x2; clear x1 x2
  go_enter Tryd.func26, Tryd.ntmps26
  go_wp2_with (first | (go_at_call 69; refine (swho_any _ _).mono ?_; rintro e w' ⟨rfl, rfl⟩) | (go_at_call 37; refine (rprice_any _ _).mono ?_; rintro e w' ⟨rfl, rfl⟩))
  go_quiet (fail)
  go_wp2
  have x1 := X1.out
  have x2 := X2.out
  go_quiet (fail)
  clear x1 x2
  go_wp2
  go_ret
  exact ⟨rfl, by repeat (first | (with_reducible exact HP.out) | (with_reducible refine Pq.drewN ?_ _) | (with_reducible refine Pq.alloc ?_ _)), by repeat (first | (with_reducible exact grown_refl _ _) | (with_reducible refine grown_drewN ?_ _) | (with_reducible refine grown_alloc ?_ _))⟩
set_option maxRecDepth 100000 in
set_option maxHeartbeats 2000000 in
theorem strade_full2 (S : Nat → Pur) (g a b : Nat) (mk tk p q : Int) (w : World) (hp : Pq w g S) (hs : PSound S) (ha2 : a < 10) (hb2 : b < 10) (hab : a ≠ b) (hp1 : inb p 1 10000 = true) (hq1 : inb q 1 10000 = true) (hA : inb a 1 9 = true) (hB : inb b 1 9 = true)
    (h1 : q ≤ (S a).hstock) (h2 : p * q ≤ (S b).held) (h3 : (S a).cash ≤ 1000000000 - p * q) (h4 : 1000000000 - q < (S b).stock) :
    Calls Tryd.prog 26 #[.pointer (some ⟨g, 0, none⟩), .agg #[.int .i64 mk, .int .i64 tk, .int .i64 a, .int .i64 b, .int .i64 p, .int .i64 q]] w (QPost (4, S) g w) := by
  have HP := Lib.hid hp
  obtain ⟨xa, a0, a1, a2, a3, a4⟩ := hp.five ha2
  obtain ⟨xb, b0, b1, b2, b3, b4⟩ := hp.five hb2
  obtain ⟨s1, s2, s3, s4, s5, s6⟩ := hs a ha2
  obtain ⟨t1, t2, t3, t4, t5, t6⟩ := hs b hb2
  have hp2 : 1 ≤ p ∧ p ≤ 10000 := by simpa [inb] using hp1
  have hq2 : 1 ≤ q ∧ q ≤ 10000 := by simpa [inb] using hq1
  obtain ⟨p1, p2⟩ := hp2
  obtain ⟨q1, q2⟩ := hq2
  rw [← vp_inb] at hp1
  have m1 : 0 ≤ p * q := Int.mul_nonneg (by omega) (by omega)
  have m2 : p * q ≤ 10000 * 10000 := Int.mul_le_mul p2 q2 (by omega) (by omega)
  have i0 : (0 : Int) ≤ (a : Int) := by omega
  have i1 : (a : Int) < 10 := by omega
  have j0 : (0 : Int) ≤ (b : Int) := by omega
  have j1 : (b : Int) < 10 := by omega
  have hgl := hp.lt
  have g1 : decide ((S a).hstock < q) = false := by simp; omega
  have g2 : decide ((S b).held < p * q) = false := by simp; omega
  have g5 : ((a : Int) == (b : Int)) = false := by simp; omega
  have g6 : (a : Int) ≠ (b : Int) := by omega
  have g7 : ((a : Int) != (b : Int)) = true := bne_iff_ne.2 g6
  clear hp hab
  obtain ⟨Y, hY⟩ : ∃ Y : Int, Y = (S a).cash + p * q := ⟨_, rfl⟩
  obtain ⟨Z, hZ⟩ : ∃ Z : Int, Z = (S b).stock + q := ⟨_, rfl⟩
  have x1 : IntKind.i64.wrap ((S a).cash + p * q) = Y := by rw [hY]; exact IntWalk.i64_in _ (by omega)
  have x2 : IntKind.i64.wrap ((S b).stock + q) = Z := by rw [hZ]; exact IntWalk.i64_in _ (by omega)
  have y1 : decide (1000000000 < Y) = false := decide_eq_false (by omega)
  have y2 : 1000000000 < Z := by omega
  clear h3 h4 hY hZ
  clear hs
  have X1 := Lib.hid x1; have X2 := Lib.hid x2; clear x1 x2
  go_enter Tryd.func26, Tryd.ntmps26
  go_wp2_with (first | (go_at_call 69; refine (swho_any _ _).mono ?_; rintro e w' ⟨rfl, rfl⟩) | (go_at_call 37; refine (rprice_any _ _).mono ?_; rintro e w' ⟨rfl, rfl⟩))
  go_quiet (fail)
  go_wp2
  have x1 := X1.out
  have x2 := X2.out
  go_quiet (fail)
  clear x1 x2
  go_wp2
  go_ret
  exact ⟨rfl, by repeat (first | (with_reducible exact HP.out) | (with_reducible refine Pq.drewN ?_ _) | (with_reducible refine Pq.alloc ?_ _)), by repeat (first | (with_reducible exact grown_refl _ _) | (with_reducible refine grown_drewN ?_ _) | (with_reducible refine grown_alloc ?_ _))⟩
end Go.Proofs.YtefncbdkjljbjaaDoor
