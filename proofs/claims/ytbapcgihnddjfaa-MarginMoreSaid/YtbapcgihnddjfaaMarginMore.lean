/- The walk of MarginMore: the call returns true, whatever the four numbers. -/
import Derived.Test.YtbapcgihnddjfaaMargin
namespace Go.Proofs.Ytbapcgihnddjfaa
open Go.RowKit
theorem law_limit (a b c d e : Int) (w : World) :
    Calls Try.prog 21 #[.int .i64 a, .int .i64 b, .int .i64 c, .int .i64 d, .int .i64 e] w fun r w' => r = .returned (.agg #[.int .i64 a, .int .i64 b, .int .i64 c, .int .i64 1, .int .i64 d, .int .i64 e, .int .i64 0, .int .i64 0]) ∧ Below w.heap.size w w' := by
  go_enter Try.func21, Try.ntmps21
  go_wp2
  exact bodyPost_ret (v := .agg #[.int .i64 a, .int .i64 b, .int .i64 c, .int .i64 1, .int .i64 d, .int .i64 e, .int .i64 0, .int .i64 0]) (by simp [results, Try.results21, go_sem]) rfl ⟨rfl, (Below.refl _ _).alloc (Nat.le_refl _) _⟩

set_option maxHeartbeats 1000000 in
theorem marginMore_walk (p q a b : Int) (w : World) :
    Calls Try.prog 7 #[.int .i64 p, .int .i64 q, .int .i64 a, .int .i64 b] w fun e w' => e = .returned (.bool true) ∧ Below w.heap.size w w' := by
  have hc : p < 1 ∨ (1 ≤ p ∧ q < p) ∨ (1 ≤ p ∧ p ≤ q ∧ 10000 < q) ∨ (1 ≤ p ∧ p ≤ q ∧ q ≤ 10000 ∧ a < 1) ∨ (1 ≤ p ∧ p ≤ q ∧ q ≤ 10000 ∧ 1 ≤ a ∧ b < a) ∨ (1 ≤ p ∧ p ≤ q ∧ q ≤ 10000 ∧ 1 ≤ a ∧ a ≤ b ∧ 10000 < b) ∨ (1 ≤ p ∧ p ≤ q ∧ q ≤ 10000 ∧ 1 ≤ a ∧ a ≤ b ∧ b ≤ 10000) := by omega
  rcases hc with h | ⟨h, h2⟩ | ⟨h, h2, h3⟩ | ⟨h, h2, h3, h4⟩ | ⟨h, h2, h3, h4, h5⟩ | ⟨h, h2, h3, h4, h5, h6⟩ | ⟨h, h2, h3, h4, h5, h6⟩
  case inr.inr.inr.inr.inr.inr =>
    have c1 := fun w => for_ok ⟨1, 1, 1, 1, p, a, 0, 0⟩ (by simp [Order.err, inb, vs, vp]; omega) w
    have c2 := fun w => for_ok ⟨1, 1, 1, 1, q, b, 0, 0⟩ (by simp [Order.err, inb, vs, vp]; omega) w
    have c3 := fun w => for_ok ⟨1, 1, 2, 1, p, a, 0, 0⟩ (by simp [Order.err, inb, vs, vp]; omega) w
    simp only [Order.lim, mcash, mstock, if_true, if_false, show ¬ (1 : Int) = 2 by decide, show ¬ (2 : Int) = 1 by decide] at c1 c2 c3
    have m1 : p * a ≤ q * b := Int.mul_le_mul h2 h5 (by omega) (by omega)
    have m2 : q * b ≤ 100000000 := by have := Int.mul_le_mul h3 h6 (by omega) (by omega); omega
    have m3 : 0 ≤ p * a := Int.mul_nonneg (by omega) (by omega)
    go_enter Try.func7, Try.ntmps7
    go_wp2_with (first | (go_at_call 21; refine (law_limit _ _ _ _ _ _).mono ?_; rintro e w' ⟨rfl, hb⟩) | (go_at_call 20; first | ((with_reducible refine (c1 _).mono ?_); rintro e w' ⟨rfl, hb⟩) | ((with_reducible refine (c2 _).mono ?_); rintro e w' ⟨rfl, hb⟩) | ((with_reducible refine (c3 _).mono ?_); rintro e w' ⟨rfl, hb⟩)))
    go_ret
    refine ⟨rfl, ?_⟩
    (repeat (first | exact Below.refl _ _ | assumption | (refine below_then (by assumption) ?_) | (refine below_then_alloc ?_) | (refine Below.drew ?_)))
  all_goals
    go_enter Try.func7, Try.ntmps7
    go_wp2
    go_ret
    exact ⟨rfl, Below.refl _ _⟩
theorem marginMore_law {H : Type} {enc : TypeId × Value → H} {v0 v1 v2 v3 : Value} {d0 d1 d2 d3 : DataW H} {p0 p1 p2 p3 : List MemPlace} {base : Nat} {W : World}
    (h0 : Arg enc W base 3 v0 d0 p0) (h1 : Arg enc W base 3 v1 d1 p1) (h2 : Arg enc W base 3 v2 d2 p2) (h3 : Arg enc W base 3 v3 d3 p3) :
    Calls Try.prog 7 #[v0, v1, v2, v3] W fun e w' => e = .returned (.bool true) ∧ Below W.heap.size W w' := by
  obtain ⟨a0, rfl, _⟩ := h0.int
  obtain ⟨a1, rfl, _⟩ := h1.int
  obtain ⟨a2, rfl, _⟩ := h2.int
  obtain ⟨a3, rfl, _⟩ := h3.int
  exact marginMore_walk a0 a1 a2 a3 W
end Go.Proofs.Ytbapcgihnddjfaa
