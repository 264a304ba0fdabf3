/- The walk of TickTells: the call returns true, whatever the five numbers. -/
import Derived.Test.YtbapcgihnddjfaaDoorTick
import Derived.Test.YtbapcgihnddjfaaDoorSame
namespace Go.Proofs.YtbapcgihnddjfaaDoor
open Go.RowKit
theorem rprice_any (p : Int) (w : World) : Calls Tryd.prog 4 #[.int .i64 p] w fun e w' => e = .returned (.bool (vp p)) ∧ w = w' := by
  have hc : p < 1 ∨ (1 ≤ p ∧ 10000 < p) ∨ (1 ≤ p ∧ p ≤ 10000) := by omega
  rcases hc with h | ⟨h, h2⟩ | ⟨h, h2⟩
  all_goals
    go_enter Tryd.func4, Tryd.ntmps4
    go_wp2
    go_ret
    refine ⟨ret_bool ?_, rfl⟩
    simp [vp]
    try omega
theorem rside_any (p : Int) (w : World) : Calls Tryd.prog 5 #[.int .i64 p] w fun e w' => e = .returned (.bool (vs p)) ∧ w = w' := by
  go_enter Tryd.func5, Tryd.ntmps5
  go_wp2
  all_goals
    go_ret
    refine ⟨ret_bool ?_, rfl⟩
    rw [Bool.eq_iff_iff]
    simp [vs]
    try omega
theorem rahead_any (s a b : Int) (w : World) (hs : vs s = true) : Calls Tryd.prog 12 #[.int .i64 s, .int .i64 a, .int .i64 b] w fun e w' => e = .returned (.bool (ahd s a b)) ∧ w = w' := by
  have h := vs_t hs
  have hc : s = 1 ∨ s = 2 := by omega
  clear hs h
  rcases hc with rfl | rfl
  all_goals rcases (show a < b ∨ a = b ∨ b < a by omega) with h | rfl | h
  all_goals
    go_enter Tryd.func12, Tryd.ntmps12
    go_wp2
    go_ret
    refine ⟨ret_bool ?_, rfl⟩
    simp [ahd]
    try omega
theorem price_ex (p : Int) : (vp p = true ∧ ∀ w, Calls Tryd.prog 7 #[.int .i64 p] w fun e w' => e = .returned .nilIface ∧ w = w') ∨ (vp p = false ∧ ∀ w, Calls Tryd.prog 7 #[.int .i64 p] w fun e w' => e = .returned (er 1) ∧ w = w') := by
  cases h : vp p
  · refine .inr ⟨rfl, fun w => ?_⟩
    go_enter Tryd.func7, Tryd.ntmps7
    go_wp2_with (go_at_call 14; refine (valid_any _ _).mono ?_; rintro e w' ⟨rfl, rfl⟩)
    go_ret
    exact ⟨rfl, rfl⟩
  · refine .inl ⟨rfl, fun w => ?_⟩
    go_enter Tryd.func7, Tryd.ntmps7
    go_wp2_with (go_at_call 14; refine (valid_any _ _).mono ?_; rintro e w' ⟨rfl, rfl⟩)
    go_ret
    exact ⟨rfl, rfl⟩
set_option maxHeartbeats 4000000 in
set_option maxRecDepth 100000 in
theorem tells_badp (p q n s parts : Int) (w : World) (hl : Laid w) (hp : vp p = false) :
    Calls Tryd.prog 3 #[.int .i64 p, .int .i64 q, .int .i64 n, .int .i64 s, .int .i64 parts] w fun e w' => e = .returned (.bool true) ∧ Below w.heap.size w w' := by
  rcases price_ex p with ⟨h, _⟩ | ⟨_, cP⟩
  · rw [hp] at h; cases h
  have hp' := vp_f hp
  have cO := fun w => on_bad p n w (by omega)
  have cR := fun w => round_bad p n s w (by simp [okR]; omega)
  have cB := fun w => band_bad p q parts w (by simp [okB]; omega)
  have cT := fun w => better_bad s p q w (by simp [okT]; omega)
  clear hp'
  rcases (show n < 1 ∨ (1 ≤ n ∧ 100 < n) ∨ (1 ≤ n ∧ n ≤ 100) by omega) with hn | ⟨hn, hn2⟩ | ⟨hn, hn2⟩
  all_goals
    go_enter Tryd.func3, Tryd.ntmps3
    go_wp2_with (first | (go_at_call 4; refine (rprice_any _ _).mono ?_; rintro e w' ⟨rfl, rfl⟩) | (go_at_call 5; refine (rside_any _ _).mono ?_; rintro e w' ⟨rfl, rfl⟩) | (go_at_call 12; refine (rahead_any _ _ _ _ (by assumption)).mono ?_; rintro e w' ⟨rfl, rfl⟩) | (go_at_call 7; ((with_reducible refine (cP _).mono ?_); rintro e w' ⟨rfl, rfl⟩)) | (go_at_call 8; ((with_reducible refine (cO _).mono ?_); rintro e w' ⟨rfl, rfl⟩)) | (go_at_call 9; ((with_reducible refine (cR _).mono ?_); rintro e w' ⟨rfl, rfl⟩)) | (go_at_call 10; ((with_reducible refine (cB _).mono ?_); rintro e w' ⟨rfl, rfl⟩)) | (go_at_call 11; ((with_reducible refine (cT _).mono ?_); rintro e w' ⟨rfl, rfl⟩)) | (go_at_call 6; first | ((with_reducible refine (same_nil _ _).mono ?_); rintro e w' ⟨rfl, rfl⟩) | ((with_reducible refine (same_er _ _ _ (by assumption)).mono ?_); rintro e w' ⟨rfl, hb⟩; have hl := Laid.below (by assumption) hb)))
    all_goals (go_ret; refine ⟨rfl, ?_⟩; (repeat (first | exact Below.refl _ _ | assumption | (refine below_then (by assumption) ?_) | (refine below_then_alloc ?_) | (refine Below.drew ?_))))
end Go.Proofs.YtbapcgihnddjfaaDoor
