/- The reference's purses: the contract of Trade. -/
import Derived.Test.YtefncbdkjljbjaaDoorSTrade
import Derived.Test.YtefncbdkjljbjaaDoorPurse7
namespace Go.Proofs.YtefncbdkjljbjaaDoor
set_option linter.all false
open Go Go.RowKit
set_option maxRecDepth 100000 in
set_option maxHeartbeats 4000000 in
theorem strade_self (S : Nat → Pur) (g a : Nat) (mk tk p q : Int) (w : World) (hp : Pq w g S) (hs : PSound S) (ha2 : a < 10) (hp1 : inb p 1 10000 = true) (hq1 : inb q 1 10000 = true) (hA : inb a 1 9 = true)
    (h1 : q ≤ (S a).hstock) (h2 : p * q ≤ (S a).held) :
    Calls Tryd.prog 26 #[.pointer (some ⟨g, 0, none⟩), .agg #[.int .i64 mk, .int .i64 tk, .int .i64 a, .int .i64 a, .int .i64 p, .int .i64 q]] w (QPost (0, moved S a a (p * q) q) g w) := by
  have HP := Lib.hid hp
  obtain ⟨xa, a0, a1, a2, a3, a4⟩ := hp.five ha2
  obtain ⟨s1, s2, s3, s4, s5, s6⟩ := hs a ha2
  have hp2 : 1 ≤ p ∧ p ≤ 10000 := by simpa [inb] using hp1
  have hq2 : 1 ≤ q ∧ q ≤ 10000 := by simpa [inb] using hq1
  obtain ⟨p1, p2⟩ := hp2
  obtain ⟨q1, q2⟩ := hq2
  rw [← vp_inb] at hp1
  have m1 : 0 ≤ p * q := Int.mul_nonneg (by omega) (by omega)
  have m2 : p * q ≤ 10000 * 10000 := Int.mul_le_mul p2 q2 (by omega) (by omega)
  have i0 : (0 : Int) ≤ (a : Int) := by omega
  have i1 : (a : Int) < 10 := by omega
  have hgl := hp.lt
  have g1 : decide ((S a).hstock < q) = false := by simp; omega
  have g2 : decide ((S a).held < p * q) = false := by simp; omega
  have g7 : ((a : Int) != (a : Int)) = false := by simp
  have z1 := fun i => HP.out.free i
  clear hp hs
  go_enter Tryd.func26, Tryd.ntmps26
  go_wp2_with (first | (go_at_call 69; refine (swho_any _ _).mono ?_; rintro e w' ⟨rfl, rfl⟩) | (go_at_call 37; refine (rprice_any _ _).mono ?_; rintro e w' ⟨rfl, rfl⟩))
  go_quiet (fail)
  go_wp2
  go_quiet (fail)
  go_wp2
  go_region
  go_wp2
  go_region
  go_wp2
  go_region
  go_wp2
  go_region
  go_wp2
  go_region
  go_wp2
  go_region
  go_wp2
  go_ret
  refine ⟨rfl, ?_, grown_drew (grown_drew (grown_drew (grown_drew (grown_drew (grown_cell (grown_cell (grown_cell (grown_cell (grown_cell (grown_cell (grown_drewN (grown_alloc (grown_refl _ _) _) _) _ _) _ _) _ _) _ _) _ _) _ _)))))⟩
  refine Pq.congr (((((((((HP.out.alloc _).drewN _).setHstock ha2 _).setStock ha2 _).setCash ha2 _).setHeld ha2 _).setCash ha2 _).setStock ha2 _).drew.drew.drew.drew.drew) fun i _ => ?_
  unfold moved
  by_cases e2 : i = a
  · subst e2; simp [upd]
  · simp [upd, e2]
end Go.Proofs.YtefncbdkjljbjaaDoor
