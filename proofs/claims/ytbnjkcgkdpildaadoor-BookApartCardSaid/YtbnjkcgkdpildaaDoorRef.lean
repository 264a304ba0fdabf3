/- The contracts of the reference's small functions: Price, Side, Ahead, Order, Rest, May; and of order.May. -/
import Derived.Test.YtbnjkcgkdpildaaDoorOrder
import Derived.Test.YtbnjkcgkdpildaaDoorQueue
namespace Go.Proofs.YtbnjkcgkdpildaaDoor
set_option linter.all false
open Go.RowKit
theorem rprice_any (p : Int) (w : World) : Calls Tryd.prog 69 #[.int .i64 p] w fun e w' => e = .returned (.bool (vp p)) ∧ w = w' := by
  have hc : p < 1 ∨ (1 ≤ p ∧ 10000 < p) ∨ (1 ≤ p ∧ p ≤ 10000) := by omega
  rcases hc with h | ⟨h, h2⟩ | ⟨h, h2⟩
  all_goals
    go_enter Tryd.func69, Tryd.ntmps69
    go_wp2
    go_ret
    refine ⟨ret_bool ?_, rfl⟩
    simp [vp]
    try omega
theorem rside_any (p : Int) (w : World) : Calls Tryd.prog 68 #[.int .i64 p] w fun e w' => e = .returned (.bool (vs p)) ∧ w = w' := by
  go_enter Tryd.func68, Tryd.ntmps68
  go_wp2
  all_goals
    go_ret
    refine ⟨ret_bool ?_, rfl⟩
    rw [Bool.eq_iff_iff]
    simp [vs]
    try omega
theorem Order.err_eq (o : Order) : o.err = if o.id < 1 ∨ 9999 < o.id ∨ o.who < 1 ∨ 9 < o.who ∨ vs o.side = false ∨ o.kind < 1 ∨ 5 < o.kind then 1
    else if (o.kind = 2 ∧ o.price ≠ 0) ∨ (o.kind ≠ 2 ∧ vp o.price = false) then 1
    else if o.qty < 1 ∨ 10000 < o.qty ∨ o.show_ < 0 ∨ o.qty < o.show_ then 1
    else if o.show_ ≠ 0 ∧ o.kind ≠ 1 ∧ o.kind ≠ 5 then 3
    else if o.stop ≠ 0 ∧ vp o.stop = false then 1 else 0 := by
  have hi : ∀ n l h : Int, inb n l h = decide (¬ (n < l ∨ h < n)) := fun n l h => by unfold inb; congr 1; rw [eq_iff_iff]; omega
  unfold Order.err
  simp only [hi]
  cases vs o.side <;> cases vp o.price <;> cases vp o.stop
  all_goals
    simp only [Bool.or_eq_true, Bool.and_eq_true, Bool.not_eq_true', decide_eq_false_iff_not, decide_eq_true_eq, beq_iff_eq, beq_eq_false_iff_ne, Bool.not_false, Bool.not_true, Bool.or_false, Bool.or_true, Bool.and_true, Bool.and_false, Decidable.not_not, or_assoc, reduceCtorEq, or_false, false_or, or_true, true_or, and_false, and_true, ne_eq, if_true, and_assoc, if_false, Bool.false_eq_true]
    try rfl
    try (repeat' split) <;> first | rfl | (exfalso; omega)
set_option maxHeartbeats 2000000 in
theorem rorder_any (o : Order) (w : World) :
    Calls Tryd.prog 42 #[.agg #[.int .i64 o.id, .int .i64 o.who, .int .i64 o.side, .int .i64 o.kind, .int .i64 o.price, .int .i64 o.qty, .int .i64 o.show_, .int .i64 o.stop]] w fun e w' => e = .returned (.int .i64 o.err) ∧ w' = w.alloc (.cells #[.int .i64 o.id, .int .i64 o.who, .int .i64 o.side, .int .i64 o.kind, .int .i64 o.price, .int .i64 o.qty, .int .i64 o.show_, .int .i64 o.stop] 36) := by
  have H := Lib.hid (Order.err_eq o)
  obtain ⟨id, who, side, kind, price, qty, show_, stop⟩ := o
  generalize Order.err ⟨id, who, side, kind, price, qty, show_, stop⟩ = E at *
  dsimp only at *
  go_enter Tryd.func42, Tryd.ntmps42
  go_wp2_with (first | (go_at_call 69; refine (rprice_any _ _).mono ?_; rintro e w' ⟨rfl, rfl⟩) | (go_at_call 68; refine (rside_any _ _).mono ?_; rintro e w' ⟨rfl, rfl⟩))
  all_goals
    go_ret
    refine ⟨?_, by simp_all⟩
    have h := H.out
    rw [h]
    refine congrArg (fun x => Ending.returned (Value.int .i64 x)) ?_
    (repeat' split) <;> first | rfl | (exfalso; simp_all; done) | (exfalso; simp_all; omega)
end Go.Proofs.YtbnjkcgkdpildaaDoor
