/- Contracts: margin.For, margin.Left, and the reference's For and LeftFor. -/
import Derived.Test.YtbnjkcgkdpildaaMargin
import Derived.Test.YtbnjkcgkdpildaaGrpB
namespace Go.Proofs.Ytbnjkcgkdpildaa
set_option linter.all false
open Go.RowKit
theorem Rest.err_eq2 (r : Rest) : r.err = if r.id < 1 ∨ 9999 < r.id ∨ r.who < 1 ∨ 9 < r.who ∨ r.qty < 1 ∨ 10000 < r.qty then 1
    else if r.hidden < 0 ∨ 10000 < r.hidden ∨ r.show_ < 0 ∨ 10000 < r.show_ then 1
    else if (r.show_ = 0 ∧ r.hidden ≠ 0) ∨ (r.show_ ≠ 0 ∧ r.show_ < r.qty) then 3 else 0 := by
  have hi : ∀ n l h : Int, inb n l h = decide (¬ (n < l ∨ h < n)) := fun n l h => by unfold inb; congr 1; rw [eq_iff_iff]; omega
  unfold Rest.err
  simp only [hi]
  simp only [Bool.or_eq_true, Bool.and_eq_true, Bool.not_eq_true', decide_eq_false_iff_not, decide_eq_true_eq, beq_iff_eq, beq_eq_false_iff_ne, Bool.not_false, Bool.not_true, Bool.or_false, Bool.or_true, Bool.and_true, Bool.and_false, Decidable.not_not, or_assoc, reduceCtorEq, or_false, false_or, or_true, true_or, and_false, and_true, ne_eq, if_true, and_assoc, if_false, Bool.false_eq_true]
theorem for_ex (o : Order) :
    (o.err = 0 ∧ ∀ w, Calls Try.prog 33 #[.agg #[.int .i64 o.id, .int .i64 o.who, .int .i64 o.side, .int .i64 o.kind, .int .i64 o.price, .int .i64 o.qty, .int .i64 o.show_, .int .i64 o.stop]] w fun e w' => e = .returned (.tuple #[.int .i64 (mcash o.side o.lim o.qty), .int .i64 (mstock o.side o.qty), .nilIface]) ∧ Below w.heap.size w w') ∨
    (o.err ≠ 0 ∧ ∀ w, Calls Try.prog 33 #[.agg #[.int .i64 o.id, .int .i64 o.who, .int .i64 o.side, .int .i64 o.kind, .int .i64 o.price, .int .i64 o.qty, .int .i64 o.show_, .int .i64 o.stop]] w fun e w' => e = .returned (.tuple #[.int .i64 0, .int .i64 0, er o.err]) ∧ Below w.heap.size w w') := by
  by_cases h : o.err = 0
  · exact .inl ⟨h, fun w => for_ok o h w⟩
  · refine .inr ⟨h, fun w => ?_⟩
    rcases check_ex o with ⟨h2, _⟩ | ⟨_, cC⟩
    · exact absurd h2 h
    clear h
    obtain ⟨id, who, side, kind, price, qty, show_, stop⟩ := o
    generalize Order.err ⟨id, who, side, kind, price, qty, show_, stop⟩ = E at *
    go_enter Try.func33, Try.ntmps33
    go_wp2_with (first | (go_at_call 50; ((with_reducible refine (cC _).mono ?_); rintro e w' ⟨rfl, rfl⟩)))
    go_ret3
    refine ⟨rfl, ?_⟩
    exact ((Below.refl _ _).alloc (Nat.le_refl _) _).alloc (by simp) _
/-- what is wrong with a rest at a price of a side -/
def leftE (r : Rest) (s p : Int) : Int := if r.err ≠ 0 then r.err else if vs s && vp p then 0 else 1
theorem left_ok (r : Rest) (s p : Int) (w : World) (h : leftE r s p = 0) :
    Calls Try.prog 35 #[.agg #[.int .i64 r.id, .int .i64 r.who, .int .i64 r.qty, .int .i64 r.hidden, .int .i64 r.show_], .int .i64 s, .int .i64 p] w fun e w' => e = .returned (.tuple #[.int .i64 (mcash s p (r.qty + r.hidden)), .int .i64 (mstock s (r.qty + r.hidden)), .nilIface]) ∧ Below w.heap.size w w' := by
  have hr : r.err = 0 := by
    by_cases h0 : r.err = 0
    · exact h0
    · rw [leftE, if_pos h0] at h; exact h
  rw [leftE, if_neg (by simpa using hr)] at h
  have hsp : vs s = true ∧ vp p = true := by
    cases hs : vs s <;> cases hp : vp p <;> simp [hs, hp] at h ⊢
  obtain ⟨hs, hp⟩ := hsp
  have cO := fun w => one_any r w
  rw [hr, show errV 0 = .nilIface from rfl] at cO
  have CO := Lib.hid cO
  rw [Rest.err_eq2] at hr
  have h1 : 1 ≤ r.qty ∧ r.qty ≤ 10000 ∧ 0 ≤ r.hidden ∧ r.hidden ≤ 10000 := by
    split at hr
    · omega
    split at hr
    · omega
    omega
  have hp2 := vp_t hp
  obtain ⟨a1, a2, a3, a4⟩ := h1
  have cF := fun w => mof_any s p (r.qty + r.hidden) w (by omega) (by omega) (by omega) (by omega)
  clear hr h cO hp2
  obtain ⟨id, who, qty, hidden, show_⟩ := r
  dsimp only at *
  go_enter Try.func35, Try.ntmps35
  go_wp2_with (first | (go_at_call 39; refine (CO.out _).mono ?_; rintro e w' ⟨rfl, rfl⟩) | (go_at_call 46; refine (side_any _ _).mono ?_; rintro e w' ⟨rfl, rfl⟩) | (go_at_call 52; refine (valid_any _ _).mono ?_; rintro e w' ⟨rfl, rfl⟩) | (go_at_call 66; ((with_reducible refine (cF _).mono ?_); rintro e w' ⟨rfl, rfl⟩)))
  go_ret3
  exact ⟨rfl, by (repeat (first | exact Below.refl _ _ | assumption | (refine below_then (by assumption) ?_) | (refine below_then_alloc ?_) | (refine Below.drew ?_)))⟩
theorem left_bad (r : Rest) (s p : Int) (w : World) (h : leftE r s p ≠ 0) :
    Calls Try.prog 35 #[.agg #[.int .i64 r.id, .int .i64 r.who, .int .i64 r.qty, .int .i64 r.hidden, .int .i64 r.show_], .int .i64 s, .int .i64 p] w fun e w' => e = .returned (.tuple #[.int .i64 0, .int .i64 0, er (leftE r s p)]) ∧ Below w.heap.size w w' := by
  have cO := fun w => one_any r w
  by_cases hr : r.err = 0
  · rw [hr, show errV 0 = .nilIface from rfl] at cO
    have CO := Lib.hid cO; clear cO
    have hsp : vs s = false ∨ (vs s = true ∧ vp p = false) := by
      rw [leftE, if_neg (by simpa using hr)] at h
      cases hs : vs s <;> cases hp : vp p <;> simp [hs, hp] at h ⊢
    rw [show leftE r s p = 1 by rw [leftE, if_neg (by simpa using hr)]; rcases hsp with hs | ⟨hs, hp⟩ <;> simp [*]]
    clear h hr
    obtain ⟨id, who, qty, hidden, show_⟩ := r
    dsimp only at *
    rcases hsp with hs | ⟨hs, hp⟩
    all_goals
      go_enter Try.func35, Try.ntmps35
      go_wp2_with (first | (go_at_call 39; refine (CO.out _).mono ?_; rintro e w' ⟨rfl, rfl⟩) | (go_at_call 46; refine (side_any _ _).mono ?_; rintro e w' ⟨rfl, rfl⟩) | (go_at_call 52; refine (valid_any _ _).mono ?_; rintro e w' ⟨rfl, rfl⟩))
      go_ret3
      exact ⟨rfl, by (repeat (first | exact Below.refl _ _ | assumption | (refine below_then (by assumption) ?_) | (refine below_then_alloc ?_) | (refine Below.drew ?_)))⟩
  · rw [show leftE r s p = r.err by rw [leftE, if_pos hr]]
    rw [show errV r.err = er r.err by simp [errV, hr]] at cO
    have CO := Lib.hid cO; clear cO h hr
    generalize r.err = E at *
    obtain ⟨id, who, qty, hidden, show_⟩ := r
    dsimp only at *
    go_enter Try.func35, Try.ntmps35
    go_wp2_with (first | (go_at_call 39; refine (CO.out _).mono ?_; rintro e w' ⟨rfl, rfl⟩))
    go_ret3
    exact ⟨rfl, by (repeat (first | exact Below.refl _ _ | assumption | (refine below_then (by assumption) ?_) | (refine below_then_alloc ?_) | (refine Below.drew ?_)))⟩
end Go.Proofs.Ytbnjkcgkdpildaa
