/- The contract of Trade. -/
import Derived.Test.YtefncbdkjljbjaaDoorPurse3
import Derived.IntWalk
namespace Go.Proofs.YtefncbdkjljbjaaDoor
set_option linter.all false
open Go Go.RowKit
/-- what a trade does: from a to b, cash and stock -/
def moved (S : Nat → Pur) (a b : Nat) (cash q : Int) : Nat → Pur :=
  let S1 := upd S a { S a with hstock := (S a).hstock - q }
  let S2 := upd S1 a { S1 a with stock := (S1 a).stock - q }
  let S3 := upd S2 a { S2 a with cash := (S2 a).cash + cash }
  let S4 := upd S3 b { S3 b with held := (S3 b).held - cash }
  let S5 := upd S4 b { S4 b with cash := (S4 b).cash - cash }
  upd S5 b { S5 b with stock := (S5 b).stock + q }
def tradeP (S : Nat → Pur) (frm to_ price qty : Int) : Int × (Nat → Pur) :=
  if inb frm 1 9 && inb to_ 1 9 && inb price 1 10000 && inb qty 1 10000 then
    if (S frm.toNat).hstock < qty ∨ (S to_.toNat).held < price * qty then (9, S)
    else if frm ≠ to_ ∧ (1000000000 - price * qty < (S frm.toNat).cash ∨ 1000000000 - qty < (S to_.toNat).stock) then (4, S)
    else (0, moved S frm.toNat to_.toNat (price * qty) qty) else (1, S)
set_option maxHeartbeats 4000000 in
theorem trade_far (S : Nat → Pur) (g a b : Nat) (mk tk p q : Int) (w : World) (hp : Pm w g S) (hs : PSound S) (ha1 : 1 ≤ a) (ha2 : a < 10) (hb1 : 1 ≤ b) (hb2 : b < 10) (hab : a ≠ b) (hp1 : inb p 1 10000 = true) (hq1 : inb q 1 10000 = true) (hA : inb a 1 9 = true) (hB : inb b 1 9 = true)
    (h1 : q ≤ (S a).hstock) (h2 : p * q ≤ (S b).held) (h3 : (S a).cash ≤ 1000000000 - p * q) (h4 : (S b).stock ≤ 1000000000 - q) :
    Calls Tryd.prog 27 #[.pointer (some ⟨g, 0, none⟩), .agg #[.int .i64 mk, .int .i64 tk, .int .i64 a, .int .i64 b, .int .i64 p, .int .i64 q]] w (PurPost (0, moved S a b (p * q) q) g w) := by
  have HP := Lib.hid hp
  obtain ⟨a0, a1, a2, a3, a4⟩ := hp.five ha2
  obtain ⟨b0, b1, b2, b3, b4⟩ := hp.five hb2
  obtain ⟨s1, s2, s3, s4, s5, s6⟩ := hs a ha2
  obtain ⟨t1, t2, t3, t4, t5, t6⟩ := hs b hb2
  have hp2 : 1 ≤ p ∧ p ≤ 10000 := by simpa [inb] using hp1
  have hq2 : 1 ≤ q ∧ q ≤ 10000 := by simpa [inb] using hq1
  obtain ⟨p1, p2⟩ := hp2
  obtain ⟨q1, q2⟩ := hq2
  have m1 : 0 ≤ p * q := Int.mul_nonneg (by omega) (by omega)
  have m2 : p * q ≤ 10000 * 10000 := Int.mul_le_mul p2 q2 (by omega) (by omega)
  have i0 : (0 : Int) ≤ (a : Int) := by omega
  have i1 : (a : Int) < 10 := by omega
  have j0 : (0 : Int) ≤ (b : Int) := by omega
  have j1 : (b : Int) < 10 := by omega
  have hgl := hp.lt
  have n42 : a * 5 + 4 ≠ b * 5 + 2 := by omega
  have o42 : b * 5 + 2 ≠ a * 5 + 4 := by omega
  have n41 : a * 5 + 4 ≠ b * 5 + 1 := by omega
  have o41 : b * 5 + 1 ≠ a * 5 + 4 := by omega
  have n43 : a * 5 + 4 ≠ b * 5 + 3 := by omega
  have o43 : b * 5 + 3 ≠ a * 5 + 4 := by omega
  have n32 : a * 5 + 3 ≠ b * 5 + 2 := by omega
  have o32 : b * 5 + 2 ≠ a * 5 + 3 := by omega
  have n31 : a * 5 + 3 ≠ b * 5 + 1 := by omega
  have o31 : b * 5 + 1 ≠ a * 5 + 3 := by omega
  have n33 : a * 5 + 3 ≠ b * 5 + 3 := by omega
  have o33 : b * 5 + 3 ≠ a * 5 + 3 := by omega
  have n12 : a * 5 + 1 ≠ b * 5 + 2 := by omega
  have o12 : b * 5 + 2 ≠ a * 5 + 1 := by omega
  have n11 : a * 5 + 1 ≠ b * 5 + 1 := by omega
  have o11 : b * 5 + 1 ≠ a * 5 + 1 := by omega
  have n13 : a * 5 + 1 ≠ b * 5 + 3 := by omega
  have o13 : b * 5 + 3 ≠ a * 5 + 1 := by omega
  have g1 : decide ((S a).hstock < q) = false := by simp; omega
  have g2 : decide ((S b).held < p * q) = false := by simp; omega
  have g3 : decide (1000000000 - p * q < (S a).cash) = false := by simp; omega
  have g4 : decide (1000000000 - q < (S b).stock) = false := by simp; omega
  have g5 : ((a : Int) == (b : Int)) = false := by simp; omega
  have g6 : (a : Int) ≠ (b : Int) := by omega
  have z1 := fun i => HP.out.free i
  have HAB := Lib.hid hab
  clear hp hs hab
  go_enter Tryd.func27, Tryd.ntmps27
  go_wp2_with (first | (go_at_call 62; refine (who_any _ _).mono ?_; rintro e w' ⟨rfl, rfl⟩) | (go_at_call 70; refine (valid_any _ _).mono ?_; rintro e w' ⟨rfl, rfl⟩) | (go_at_call 71; refine (qty_any _ _).mono ?_; rintro e w' ⟨rfl, rfl⟩))
  go_quiet (fail)
  go_wp2
  go_quiet (fail)
  go_wp2
  have x1 : IntKind.i64.wrap (1000000000 - p * q) = 1000000000 - p * q := IntWalk.i64_in _ (by omega)
  have x2 : IntKind.i64.wrap (1000000000 - q) = 1000000000 - q := IntWalk.i64_in _ (by omega)
  go_quiet (fail)
  clear x1 x2
  go_wp2
  go_region
  go_wp2
  go_region
  go_wp2
  go_region
  go_wp2
  go_ret
  refine ⟨rfl, ?_, grown_drew (grown_drew (grown_cell (grown_cell (grown_cell (grown_cell (grown_cell (grown_cell (grown_drewN (grown_alloc (grown_refl _ _) _) _) _ _) _ _) _ _) _ _) _ _) _ _))⟩
  refine Pm.congr (((((((((HP.out.alloc _).drewN _).setHstock ha2 _).setStock ha2 _).setCash ha2 _).setHeld hb2 _).setCash hb2 _).setStock hb2 _).drew.drew) fun i _ => ?_
  have hab := HAB.out
  unfold moved
  by_cases e1 : i = b
  · subst e1; simp [upd, Ne.symm hab]
  · by_cases e2 : i = a
    · subst e2; simp [upd, hab]
    · simp [upd, e1, e2]
set_option maxHeartbeats 4000000 in
theorem trade_self (S : Nat → Pur) (g a : Nat) (mk tk p q : Int) (w : World) (hp : Pm w g S) (hs : PSound S) (ha1 : 1 ≤ a) (ha2 : a < 10) (hp1 : inb p 1 10000 = true) (hq1 : inb q 1 10000 = true) (hA : inb a 1 9 = true) 
    (h1 : q ≤ (S a).hstock) (h2 : p * q ≤ (S a).held) :
    Calls Tryd.prog 27 #[.pointer (some ⟨g, 0, none⟩), .agg #[.int .i64 mk, .int .i64 tk, .int .i64 a, .int .i64 a, .int .i64 p, .int .i64 q]] w (PurPost (0, moved S a a (p * q) q) g w) := by
  have HP := Lib.hid hp
  obtain ⟨a0, a1, a2, a3, a4⟩ := hp.five ha2
  obtain ⟨s1, s2, s3, s4, s5, s6⟩ := hs a ha2
  have hp2 : 1 ≤ p ∧ p ≤ 10000 := by simpa [inb] using hp1
  have hq2 : 1 ≤ q ∧ q ≤ 10000 := by simpa [inb] using hq1
  obtain ⟨p1, p2⟩ := hp2
  obtain ⟨q1, q2⟩ := hq2
  have m1 : 0 ≤ p * q := Int.mul_nonneg (by omega) (by omega)
  have m2 : p * q ≤ 10000 * 10000 := Int.mul_le_mul p2 q2 (by omega) (by omega)
  have i0 : (0 : Int) ≤ (a : Int) := by omega
  have i1 : (a : Int) < 10 := by omega
  have hgl := hp.lt
  have g1 : decide ((S a).hstock < q) = false := by simp; omega
  have g2 : decide ((S a).held < p * q) = false := by simp; omega
  have z1 := fun i => HP.out.free i
  clear hp hs
  go_enter Tryd.func27, Tryd.ntmps27
  go_wp2_with (first | (go_at_call 62; refine (who_any _ _).mono ?_; rintro e w' ⟨rfl, rfl⟩) | (go_at_call 70; refine (valid_any _ _).mono ?_; rintro e w' ⟨rfl, rfl⟩) | (go_at_call 71; refine (qty_any _ _).mono ?_; rintro e w' ⟨rfl, rfl⟩))
  go_quiet (fail)
  go_wp2
  go_quiet (fail)
  go_wp2
  go_quiet (fail)
  go_wp2
  go_region
  go_wp2
  go_region
  go_wp2
  go_region
  go_wp2
  go_ret
  refine ⟨rfl, ?_, grown_drew (grown_drew (grown_cell (grown_cell (grown_cell (grown_cell (grown_cell (grown_cell (grown_drewN (grown_alloc (grown_refl _ _) _) _) _ _) _ _) _ _) _ _) _ _) _ _))⟩
  refine Pm.congr (((((((((HP.out.alloc _).drewN _).setHstock ha2 _).setStock ha2 _).setCash ha2 _).setHeld ha2 _).setCash ha2 _).setStock ha2 _).drew.drew) fun i _ => ?_
  unfold moved
  by_cases e2 : i = a
  · subst e2; simp [upd]
  · simp [upd, e2]
end Go.Proofs.YtefncbdkjljbjaaDoor
