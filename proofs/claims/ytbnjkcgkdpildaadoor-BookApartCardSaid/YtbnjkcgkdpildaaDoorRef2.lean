/- The contracts of the reference's Rest and May; and of order.May. -/
import Derived.Test.YtbnjkcgkdpildaaDoorRef
import Derived.Test.YtbnjkcgkdpildaaDoorQueue
namespace Go.Proofs.YtbnjkcgkdpildaaDoor
set_option linter.all false
open Go.RowKit
def ahd' (s a b : Int) : Bool := if s = 1 then decide (a < b) else decide (b < a)
theorem ahead_any (s a b : Int) (w : World) : Calls Tryd.prog 59 #[.int .i64 s, .int .i64 a, .int .i64 b] w fun e w' => e = .returned (.bool (ahd' s a b)) ∧ w = w' := by
  by_cases h : s = 1
  · subst h
    go_enter Tryd.func59, Tryd.ntmps59
    go_wp2
    go_ret
    exact ⟨ret_bool (by simp [ahd']), rfl⟩
  · have e : (s == 1) = false := by simpa using h
    have e2 : ahd' s a b = decide (b < a) := by simp [ahd', h]
    rw [e2]
    clear h e2
    go_enter Tryd.func59, Tryd.ntmps59
    go_wp2
    go_ret
    exact ⟨rfl, rfl⟩
/-- may an order trade at a price? -/
def may (o : Order) (p : Int) : Bool := decide (o.kind = 2 ∨ (o.side = 1 ∧ p ≤ o.price) ∨ (o.side ≠ 1 ∧ o.price ≤ p))
set_option maxHeartbeats 1000000 in
theorem rmay_any (o : Order) (p : Int) (w : World) (hs : vs o.side = true) :
    Calls Tryd.prog 20 #[.agg #[.int .i64 o.id, .int .i64 o.who, .int .i64 o.side, .int .i64 o.kind, .int .i64 o.price, .int .i64 o.qty, .int .i64 o.show_, .int .i64 o.stop], .int .i64 p] w fun e w' => e = .returned (.bool (may o p)) ∧ w' = w.alloc (.cells #[.int .i64 o.id, .int .i64 o.who, .int .i64 o.side, .int .i64 o.kind, .int .i64 o.price, .int .i64 o.qty, .int .i64 o.show_, .int .i64 o.stop] 36) := by
  have hs' := vs_t hs
  have H := Lib.hid (show may o p = decide (o.kind = 2 ∨ (o.side = 1 ∧ p ≤ o.price) ∨ (o.side ≠ 1 ∧ o.price ≤ p)) from rfl)
  obtain ⟨id, who, side, kind, price, qty, show_, stop⟩ := o
  generalize may ⟨id, who, side, kind, price, qty, show_, stop⟩ p = E at *
  dsimp only at *
  clear hs
  rcases (show kind = 2 ∨ (kind ≠ 2 ∧ side = 1 ∧ p ≤ price) ∨ (kind ≠ 2 ∧ side = 1 ∧ price < p) ∨ (kind ≠ 2 ∧ side = 2 ∧ price ≤ p) ∨ (kind ≠ 2 ∧ side = 2 ∧ p < price) by omega) with rfl | ⟨hk, rfl, hp⟩ | ⟨hk, rfl, hp⟩ | ⟨hk, rfl, hp⟩ | ⟨hk, rfl, hp⟩
  all_goals
    try have e1 : (kind == 2) = false := by simpa using hk
    go_enter Tryd.func20, Tryd.ntmps20
    go_wp2
    go_ret
    refine ⟨ret_bool ?_, rfl⟩
    rw [H.out]
    simp
    try omega
set_option maxHeartbeats 1000000 in
theorem may_any (o : Order) (p : Int) (w : World) :
    Calls Tryd.prog 50 #[.agg #[.int .i64 o.id, .int .i64 o.who, .int .i64 o.side, .int .i64 o.kind, .int .i64 o.price, .int .i64 o.qty, .int .i64 o.show_, .int .i64 o.stop], .int .i64 p] w fun e w' => e = .returned (.bool (may o p)) ∧ w' = w.alloc (.cells #[.int .i64 o.id, .int .i64 o.who, .int .i64 o.side, .int .i64 o.kind, .int .i64 o.price, .int .i64 o.qty, .int .i64 o.show_, .int .i64 o.stop] 36) := by
  have H := Lib.hid (show may o p = decide (o.kind = 2 ∨ (o.side = 1 ∧ p ≤ o.price) ∨ (o.side ≠ 1 ∧ o.price ≤ p)) from rfl)
  obtain ⟨id, who, side, kind, price, qty, show_, stop⟩ := o
  generalize may ⟨id, who, side, kind, price, qty, show_, stop⟩ p = E at *
  dsimp only at *
  have cA := fun w => ahead_any side p price w
  rcases (show kind = 2 ∨ (kind ≠ 2 ∧ price = p) ∨ (kind ≠ 2 ∧ price ≠ p) by omega) with rfl | ⟨hk, rfl⟩ | ⟨hk, hp⟩
  · go_enter Tryd.func50, Tryd.ntmps50
    go_wp2
    go_ret
    refine ⟨ret_bool ?_, rfl⟩
    rw [H.out]
    simp
  · have e1 : (kind == 2) = false := by simpa using hk
    go_enter Tryd.func50, Tryd.ntmps50
    go_wp2
    go_ret
    refine ⟨ret_bool ?_, rfl⟩
    rw [H.out]
    simp
    try omega
  · have e1 : (kind == 2) = false := by simpa using hk
    have e2 : (price == p) = false := by simpa using hp
    have e3 : E = ahd' side p price := by
      rw [H.out]
      unfold ahd'
      by_cases hs : side = 1 <;> simp [hs, hk] <;> omega
    clear H
    subst e3
    generalize ahd' side p price = E at *
    go_enter Tryd.func50, Tryd.ntmps50
    go_wp2_with (go_at_call 59; ((with_reducible refine (cA _).mono ?_); rintro e w' ⟨rfl, rfl⟩))
    go_ret
    exact ⟨rfl, rfl⟩
theorem Rest.err_eq2 (r : Rest) : r.err = if r.id < 1 ∨ 9999 < r.id ∨ r.who < 1 ∨ 9 < r.who ∨ r.qty < 1 ∨ 10000 < r.qty then 1
    else if r.hidden < 0 ∨ 10000 < r.hidden ∨ r.show_ < 0 ∨ 10000 < r.show_ then 1
    else if (r.show_ = 0 ∧ r.hidden ≠ 0) ∨ (r.show_ ≠ 0 ∧ r.show_ < r.qty) then 3 else 0 := by
  have hi : ∀ n l h : Int, inb n l h = decide (¬ (n < l ∨ h < n)) := fun n l h => by unfold inb; congr 1; rw [eq_iff_iff]; omega
  unfold Rest.err
  simp only [hi]
  simp only [Bool.or_eq_true, Bool.and_eq_true, Bool.not_eq_true', decide_eq_false_iff_not, decide_eq_true_eq, beq_iff_eq, beq_eq_false_iff_ne, Bool.not_false, Bool.not_true, Bool.or_false, Bool.or_true, Bool.and_true, Bool.and_false, Decidable.not_not, or_assoc, reduceCtorEq, or_false, false_or, or_true, true_or, and_false, and_true, ne_eq, if_true, and_assoc, if_false, Bool.false_eq_true]
set_option maxHeartbeats 2000000 in
theorem rrest_any (r : Rest) (w : World) :
    Calls Tryd.prog 95 #[.agg #[.int .i64 r.id, .int .i64 r.who, .int .i64 r.qty, .int .i64 r.hidden, .int .i64 r.show_]] w fun e w' => e = .returned (.int .i64 r.err) ∧ w' = w.alloc (.cells #[.int .i64 r.id, .int .i64 r.who, .int .i64 r.qty, .int .i64 r.hidden, .int .i64 r.show_] 23) := by
  have H := Lib.hid (Rest.err_eq2 r)
  obtain ⟨id, who, qty, hidden, show_⟩ := r
  generalize Rest.err ⟨id, who, qty, hidden, show_⟩ = E at *
  dsimp only at *
  go_enter Tryd.func95, Tryd.ntmps95
  go_wp2
  all_goals
    go_ret
    refine ⟨?_, by simp_all⟩
    have h := H.out
    rw [h]
    refine congrArg (fun x => Ending.returned (Value.int .i64 x)) ?_
    (repeat' split) <;> first | rfl | (exfalso; simp_all; done) | (exfalso; simp_all; omega)
end Go.Proofs.YtbnjkcgkdpildaaDoor
