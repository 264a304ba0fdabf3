/- The contracts of the reference's Rest and May; and of order.May. -/
import Derived.Test.YtbnjkcgkdpildaaRef
import Derived.Test.YtbnjkcgkdpildaaQueue
namespace Go.Proofs.Ytbnjkcgkdpildaa
set_option linter.all false
open Go.RowKit
def ahd' (s a b : Int) : Bool := if s = 1 then decide (a < b) else decide (b < a)
theorem ahead_any (s a b : Int) (w : World) : Calls Try.prog 53 #[.int .i64 s, .int .i64 a, .int .i64 b] w fun e w' => e = .returned (.bool (ahd' s a b)) ∧ w = w' := by
  by_cases h : s = 1
  · subst h
    go_enter Try.func53, Try.ntmps53
    go_wp2
    go_ret
    exact ⟨ret_bool (by simp [ahd']), rfl⟩
  · have e : (s == 1) = false := by simpa using h
    have e2 : ahd' s a b = decide (b < a) := by simp [ahd', h]
    rw [e2]
    clear h e2
    go_enter Try.func53, Try.ntmps53
    go_wp2
    go_ret
    exact ⟨rfl, rfl⟩
/-- may an order trade at a price? -/
def may (o : Order) (p : Int) : Bool := decide (o.kind = 2 ∨ (o.side = 1 ∧ p ≤ o.price) ∨ (o.side ≠ 1 ∧ o.price ≤ p))
set_option maxHeartbeats 1000000 in
theorem may_any (o : Order) (p : Int) (w : World) :
    Calls Try.prog 51 #[.agg #[.int .i64 o.id, .int .i64 o.who, .int .i64 o.side, .int .i64 o.kind, .int .i64 o.price, .int .i64 o.qty, .int .i64 o.show_, .int .i64 o.stop], .int .i64 p] w fun e w' => e = .returned (.bool (may o p)) ∧ w' = w.alloc (.cells #[.int .i64 o.id, .int .i64 o.who, .int .i64 o.side, .int .i64 o.kind, .int .i64 o.price, .int .i64 o.qty, .int .i64 o.show_, .int .i64 o.stop] 36) := by
  have H := Lib.hid (show may o p = decide (o.kind = 2 ∨ (o.side = 1 ∧ p ≤ o.price) ∨ (o.side ≠ 1 ∧ o.price ≤ p)) from rfl)
  obtain ⟨id, who, side, kind, price, qty, show_, stop⟩ := o
  generalize may ⟨id, who, side, kind, price, qty, show_, stop⟩ p = E at *
  dsimp only at *
  have cA := fun w => ahead_any side p price w
  rcases (show kind = 2 ∨ (kind ≠ 2 ∧ price = p) ∨ (kind ≠ 2 ∧ price ≠ p) by omega) with rfl | ⟨hk, rfl⟩ | ⟨hk, hp⟩
  · go_enter Try.func51, Try.ntmps51
    go_wp2
    go_ret
    refine ⟨ret_bool ?_, rfl⟩
    rw [H.out]
    simp
  · have e1 : (kind == 2) = false := by simpa using hk
    go_enter Try.func51, Try.ntmps51
    go_wp2
    go_ret
    refine ⟨ret_bool ?_, rfl⟩
    rw [H.out]
    simp
    try omega
  · have e1 : (kind == 2) = false := by simpa using hk
    have e2 : (price == p) = false := by simpa using hp
    have e3 : E = ahd' side p price := by
      rw [H.out]
      unfold ahd'
      by_cases hs : side = 1 <;> simp [hs, hk] <;> omega
    clear H
    subst e3
    generalize ahd' side p price = E at *
    go_enter Try.func51, Try.ntmps51
    go_wp2_with (go_at_call 53; ((with_reducible refine (cA _).mono ?_); rintro e w' ⟨rfl, rfl⟩))
    go_ret
    exact ⟨rfl, rfl⟩
end Go.Proofs.Ytbnjkcgkdpildaa
