/- TickTells: one part of its cases. -/
import Derived.Test.YtbapcgihnddjfaaDoorTickTellsA
namespace Go.Proofs.YtbapcgihnddjfaaDoor
open Go.RowKit
set_option maxHeartbeats 16000000 in
set_option maxRecDepth 100000 in
theorem tells_pge (p q n s parts : Int) (w : World) (hl : Laid w) (hp : vp p = true) (hq : vp q = true) (hn0 : 0 ≤ parts) (hn1 : parts ≤ 100) (hge : q ≤ p) :
    Calls Tryd.prog 3 #[.int .i64 p, .int .i64 q, .int .i64 n, .int .i64 s, .int .i64 parts] w fun e w' => e = .returned (.bool true) ∧ Below w.heap.size w w' := by
  rcases price_ex p with ⟨_, cP⟩ | ⟨h, _⟩
  case inr => rw [hp] at h; cases h
  obtain ⟨hp1, hp2⟩ := vp_t hp
  have hqq := vp_t hq
  have cB := fun w => band_ok p q parts w (by simp [okB]; omega)
  have hin : inB p q parts = decide ((p - q) * 100 ≤ parts * q) := by
    unfold inB
    split
    · rw [show q - p = p - q by omega]
    · rfl
  rw [hin] at cB
  have hm1 : parts * q ≤ 1000000 := by have := Int.mul_le_mul hn1 hqq.2 (by omega) (by omega); omega
  have hm0 : 0 ≤ parts * q := Int.mul_nonneg hn0 (by omega)
  obtain ⟨hq1, hq2⟩ := hqq
  clear hin
  by_cases hn : 1 ≤ n ∧ n ≤ 100
  case neg =>
    have cO := fun w => on_bad p n w (by omega)
    have cR := fun w => round_bad p n s w (by simp [okR]; omega)
    cases hs : vs s
    · have cT := fun w => better_bad s p q w (by have := vs_f hs; simp [okT]; omega)
      rcases (show n < 1 ∨ (1 ≤ n ∧ 100 < n) by omega) with h | ⟨h, h2⟩
      all_goals
        clear hn
        go_enter Tryd.func3, Tryd.ntmps3
        go_wp2_with (first | (go_at_call 4; refine (rprice_any _ _).mono ?_; rintro e w' ⟨rfl, rfl⟩) | (go_at_call 5; refine (rside_any _ _).mono ?_; rintro e w' ⟨rfl, rfl⟩) | (go_at_call 12; refine (rahead_any _ _ _ _ (by assumption)).mono ?_; rintro e w' ⟨rfl, rfl⟩) | (go_at_call 7; ((with_reducible refine (cP _).mono ?_); rintro e w' ⟨rfl, rfl⟩)) | (go_at_call 8; ((with_reducible refine (cO _).mono ?_); rintro e w' ⟨rfl, rfl⟩)) | (go_at_call 9; ((with_reducible refine (cR _).mono ?_); rintro e w' ⟨rfl, rfl⟩)) | (go_at_call 10; ((with_reducible refine (cB _).mono ?_); rintro e w' ⟨rfl, rfl⟩)) | (go_at_call 11; ((with_reducible refine (cT _).mono ?_); rintro e w' ⟨rfl, rfl⟩)) | (go_at_call 6; first | ((with_reducible refine (same_nil _ _).mono ?_); rintro e w' ⟨rfl, rfl⟩) | ((with_reducible refine (same_er _ _ _ (by assumption)).mono ?_); rintro e w' ⟨rfl, hb⟩; have hl := Laid.below (by assumption) hb)))
        all_goals (go_ret; refine ⟨rfl, ?_⟩; (repeat (first | exact Below.refl _ _ | assumption | (refine below_then (by assumption) ?_) | (refine below_then_alloc ?_) | (refine Below.drew ?_))))
    · have cT := fun w => better_ok s p q w (by have := vp_t hq; have := vs_t hs; simp [okT]; omega)
      rcases (show n < 1 ∨ (1 ≤ n ∧ 100 < n) by omega) with h | ⟨h, h2⟩
      all_goals
        clear hn
        go_enter Tryd.func3, Tryd.ntmps3
        go_wp2_with (first | (go_at_call 4; refine (rprice_any _ _).mono ?_; rintro e w' ⟨rfl, rfl⟩) | (go_at_call 5; refine (rside_any _ _).mono ?_; rintro e w' ⟨rfl, rfl⟩) | (go_at_call 12; refine (rahead_any _ _ _ _ (by assumption)).mono ?_; rintro e w' ⟨rfl, rfl⟩) | (go_at_call 7; ((with_reducible refine (cP _).mono ?_); rintro e w' ⟨rfl, rfl⟩)) | (go_at_call 8; ((with_reducible refine (cO _).mono ?_); rintro e w' ⟨rfl, rfl⟩)) | (go_at_call 9; ((with_reducible refine (cR _).mono ?_); rintro e w' ⟨rfl, rfl⟩)) | (go_at_call 10; ((with_reducible refine (cB _).mono ?_); rintro e w' ⟨rfl, rfl⟩)) | (go_at_call 11; ((with_reducible refine (cT _).mono ?_); rintro e w' ⟨rfl, rfl⟩)) | (go_at_call 6; first | ((with_reducible refine (same_nil _ _).mono ?_); rintro e w' ⟨rfl, rfl⟩) | ((with_reducible refine (same_er _ _ _ (by assumption)).mono ?_); rintro e w' ⟨rfl, hb⟩; have hl := Laid.below (by assumption) hb)))
        all_goals (go_ret; refine ⟨rfl, ?_⟩; (repeat (first | exact Below.refl _ _ | assumption | (refine below_then (by assumption) ?_) | (refine below_then_alloc ?_) | (refine Below.drew ?_))))
  obtain ⟨h1, h2⟩ := hn
  have cO := fun w => on_ok p n w hp1 hp2 h1 h2
  cases hs : vs s
  · have cR := fun w => round_bad p n s w (by have := vs_f hs; simp [okR]; omega)
    have cT := fun w => better_bad s p q w (by have := vs_f hs; simp [okT]; omega)
    go_enter Tryd.func3, Tryd.ntmps3
    go_wp2_with (first | (go_at_call 4; refine (rprice_any _ _).mono ?_; rintro e w' ⟨rfl, rfl⟩) | (go_at_call 5; refine (rside_any _ _).mono ?_; rintro e w' ⟨rfl, rfl⟩) | (go_at_call 12; refine (rahead_any _ _ _ _ (by assumption)).mono ?_; rintro e w' ⟨rfl, rfl⟩) | (go_at_call 7; ((with_reducible refine (cP _).mono ?_); rintro e w' ⟨rfl, rfl⟩)) | (go_at_call 8; ((with_reducible refine (cO _).mono ?_); rintro e w' ⟨rfl, rfl⟩)) | (go_at_call 9; ((with_reducible refine (cR _).mono ?_); rintro e w' ⟨rfl, rfl⟩)) | (go_at_call 10; ((with_reducible refine (cB _).mono ?_); rintro e w' ⟨rfl, rfl⟩)) | (go_at_call 11; ((with_reducible refine (cT _).mono ?_); rintro e w' ⟨rfl, rfl⟩)) | (go_at_call 6; first | ((with_reducible refine (same_nil _ _).mono ?_); rintro e w' ⟨rfl, rfl⟩) | ((with_reducible refine (same_er _ _ _ (by assumption)).mono ?_); rintro e w' ⟨rfl, hb⟩; have hl := Laid.below (by assumption) hb)))
    all_goals (go_ret; refine ⟨rfl, ?_⟩; (repeat (first | exact Below.refl _ _ | assumption | (refine below_then (by assumption) ?_) | (refine below_then_alloc ?_) | (refine Below.drew ?_))))
  · have hm := Int.emod_nonneg p (show n ≠ 0 by omega)
    have hml := Int.emod_lt_of_pos p (show 0 < n by omega)
    have hmp : p % n ≤ p := by
      have := Int.mul_ediv_add_emod p n
      have := Int.mul_nonneg (show 0 ≤ n by omega) (Int.ediv_nonneg (show 0 ≤ p by omega) (show 0 ≤ n by omega))
      omega
    have hss := vs_t hs
    rcases (show s = 1 ∨ s = 2 by omega) with rfl | rfl
    · have cT := fun w => better_ok 1 p q w (by have := vp_t hq; simp [okT]; omega)
      have hr : rnd p n 1 = p - p % n := by simp [rnd]
      rcases (show 1 ≤ p - p % n ∨ p - p % n < 1 by omega) with c1 | c1
      · have cR : ∀ w, Calls Tryd.prog 9 #[.int .i64 p, .int .i64 n, .int .i64 1] w fun e w' => e = .returned (.tuple #[.int .i64 (p - p % n), .nilIface]) ∧ w = w' := by
          rcases round_ex p n 1 with ⟨_, _, c⟩ | ⟨h, _⟩
          · rw [hr] at c; exact c
          · rw [hr] at h; rcases h with h | h
            · simp [okR] at h; omega
            · have := vp_f h; omega
        clear hr hss
        go_enter Tryd.func3, Tryd.ntmps3
        go_wp2_with (first | (go_at_call 4; refine (rprice_any _ _).mono ?_; rintro e w' ⟨rfl, rfl⟩) | (go_at_call 5; refine (rside_any _ _).mono ?_; rintro e w' ⟨rfl, rfl⟩) | (go_at_call 12; refine (rahead_any _ _ _ _ (by assumption)).mono ?_; rintro e w' ⟨rfl, rfl⟩) | (go_at_call 7; ((with_reducible refine (cP _).mono ?_); rintro e w' ⟨rfl, rfl⟩)) | (go_at_call 8; ((with_reducible refine (cO _).mono ?_); rintro e w' ⟨rfl, rfl⟩)) | (go_at_call 9; ((with_reducible refine (cR _).mono ?_); rintro e w' ⟨rfl, rfl⟩)) | (go_at_call 10; ((with_reducible refine (cB _).mono ?_); rintro e w' ⟨rfl, rfl⟩)) | (go_at_call 11; ((with_reducible refine (cT _).mono ?_); rintro e w' ⟨rfl, rfl⟩)) | (go_at_call 6; first | ((with_reducible refine (same_nil _ _).mono ?_); rintro e w' ⟨rfl, rfl⟩) | ((with_reducible refine (same_er _ _ _ (by assumption)).mono ?_); rintro e w' ⟨rfl, hb⟩; have hl := Laid.below (by assumption) hb)))
        all_goals (go_ret; refine ⟨rfl, ?_⟩; (repeat (first | exact Below.refl _ _ | assumption | (refine below_then (by assumption) ?_) | (refine below_then_alloc ?_) | (refine Below.drew ?_))))
      · have cR : ∀ w, Calls Tryd.prog 9 #[.int .i64 p, .int .i64 n, .int .i64 1] w fun e w' => e = .returned (.tuple #[.int .i64 0, er 1]) ∧ w = w' := by
          rcases round_ex p n 1 with ⟨_, h, _⟩ | ⟨_, c⟩
          · rw [hr] at h; have := vp_t h; omega
          · exact c
        clear hr hss
        go_enter Tryd.func3, Tryd.ntmps3
        go_wp2_with (first | (go_at_call 4; refine (rprice_any _ _).mono ?_; rintro e w' ⟨rfl, rfl⟩) | (go_at_call 5; refine (rside_any _ _).mono ?_; rintro e w' ⟨rfl, rfl⟩) | (go_at_call 12; refine (rahead_any _ _ _ _ (by assumption)).mono ?_; rintro e w' ⟨rfl, rfl⟩) | (go_at_call 7; ((with_reducible refine (cP _).mono ?_); rintro e w' ⟨rfl, rfl⟩)) | (go_at_call 8; ((with_reducible refine (cO _).mono ?_); rintro e w' ⟨rfl, rfl⟩)) | (go_at_call 9; ((with_reducible refine (cR _).mono ?_); rintro e w' ⟨rfl, rfl⟩)) | (go_at_call 10; ((with_reducible refine (cB _).mono ?_); rintro e w' ⟨rfl, rfl⟩)) | (go_at_call 11; ((with_reducible refine (cT _).mono ?_); rintro e w' ⟨rfl, rfl⟩)) | (go_at_call 6; first | ((with_reducible refine (same_nil _ _).mono ?_); rintro e w' ⟨rfl, rfl⟩) | ((with_reducible refine (same_er _ _ _ (by assumption)).mono ?_); rintro e w' ⟨rfl, hb⟩; have hl := Laid.below (by assumption) hb)))
        all_goals (go_ret; refine ⟨rfl, ?_⟩; (repeat (first | exact Below.refl _ _ | assumption | (refine below_then (by assumption) ?_) | (refine below_then_alloc ?_) | (refine Below.drew ?_))))
    · have cT := fun w => better_ok 2 p q w (by have := vp_t hq; simp [okT]; omega)
      rcases (show p % n ≤ 0 ∨ (1 ≤ p % n ∧ p - p % n + n ≤ 10000) ∨ (1 ≤ p % n ∧ 10000 < p - p % n + n) by omega) with c1 | ⟨c1, c2⟩ | ⟨c1, c2⟩
      · have hr : rnd p n 2 = p - p % n := by simp [rnd]; omega
        have cR : ∀ w, Calls Tryd.prog 9 #[.int .i64 p, .int .i64 n, .int .i64 2] w fun e w' => e = .returned (.tuple #[.int .i64 (p - p % n), .nilIface]) ∧ w = w' := by
          rcases round_ex p n 2 with ⟨_, _, c⟩ | ⟨h, _⟩
          · rw [hr] at c; exact c
          · rw [hr] at h; rcases h with h | h
            · simp [okR] at h; omega
            · have := vp_f h; omega
        clear hr hss
        go_enter Tryd.func3, Tryd.ntmps3
        go_wp2_with (first | (go_at_call 4; refine (rprice_any _ _).mono ?_; rintro e w' ⟨rfl, rfl⟩) | (go_at_call 5; refine (rside_any _ _).mono ?_; rintro e w' ⟨rfl, rfl⟩) | (go_at_call 12; refine (rahead_any _ _ _ _ (by assumption)).mono ?_; rintro e w' ⟨rfl, rfl⟩) | (go_at_call 7; ((with_reducible refine (cP _).mono ?_); rintro e w' ⟨rfl, rfl⟩)) | (go_at_call 8; ((with_reducible refine (cO _).mono ?_); rintro e w' ⟨rfl, rfl⟩)) | (go_at_call 9; ((with_reducible refine (cR _).mono ?_); rintro e w' ⟨rfl, rfl⟩)) | (go_at_call 10; ((with_reducible refine (cB _).mono ?_); rintro e w' ⟨rfl, rfl⟩)) | (go_at_call 11; ((with_reducible refine (cT _).mono ?_); rintro e w' ⟨rfl, rfl⟩)) | (go_at_call 6; first | ((with_reducible refine (same_nil _ _).mono ?_); rintro e w' ⟨rfl, rfl⟩) | ((with_reducible refine (same_er _ _ _ (by assumption)).mono ?_); rintro e w' ⟨rfl, hb⟩; have hl := Laid.below (by assumption) hb)))
        all_goals (go_ret; refine ⟨rfl, ?_⟩; (repeat (first | exact Below.refl _ _ | assumption | (refine below_then (by assumption) ?_) | (refine below_then_alloc ?_) | (refine Below.drew ?_))))
      · have hr : rnd p n 2 = p - p % n + n := by simp [rnd]; omega
        have cR : ∀ w, Calls Tryd.prog 9 #[.int .i64 p, .int .i64 n, .int .i64 2] w fun e w' => e = .returned (.tuple #[.int .i64 (p - p % n + n), .nilIface]) ∧ w = w' := by
          rcases round_ex p n 2 with ⟨_, _, c⟩ | ⟨h, _⟩
          · rw [hr] at c; exact c
          · rw [hr] at h; rcases h with h | h
            · simp [okR] at h; omega
            · have := vp_f h; omega
        clear hr hss
        go_enter Tryd.func3, Tryd.ntmps3
        go_wp2_with (first | (go_at_call 4; refine (rprice_any _ _).mono ?_; rintro e w' ⟨rfl, rfl⟩) | (go_at_call 5; refine (rside_any _ _).mono ?_; rintro e w' ⟨rfl, rfl⟩) | (go_at_call 12; refine (rahead_any _ _ _ _ (by assumption)).mono ?_; rintro e w' ⟨rfl, rfl⟩) | (go_at_call 7; ((with_reducible refine (cP _).mono ?_); rintro e w' ⟨rfl, rfl⟩)) | (go_at_call 8; ((with_reducible refine (cO _).mono ?_); rintro e w' ⟨rfl, rfl⟩)) | (go_at_call 9; ((with_reducible refine (cR _).mono ?_); rintro e w' ⟨rfl, rfl⟩)) | (go_at_call 10; ((with_reducible refine (cB _).mono ?_); rintro e w' ⟨rfl, rfl⟩)) | (go_at_call 11; ((with_reducible refine (cT _).mono ?_); rintro e w' ⟨rfl, rfl⟩)) | (go_at_call 6; first | ((with_reducible refine (same_nil _ _).mono ?_); rintro e w' ⟨rfl, rfl⟩) | ((with_reducible refine (same_er _ _ _ (by assumption)).mono ?_); rintro e w' ⟨rfl, hb⟩; have hl := Laid.below (by assumption) hb)))
        all_goals (go_ret; refine ⟨rfl, ?_⟩; (repeat (first | exact Below.refl _ _ | assumption | (refine below_then (by assumption) ?_) | (refine below_then_alloc ?_) | (refine Below.drew ?_))))
      · have hr : rnd p n 2 = p - p % n + n := by simp [rnd]; omega
        have cR : ∀ w, Calls Tryd.prog 9 #[.int .i64 p, .int .i64 n, .int .i64 2] w fun e w' => e = .returned (.tuple #[.int .i64 0, er 1]) ∧ w = w' := by
          rcases round_ex p n 2 with ⟨_, h, _⟩ | ⟨_, c⟩
          · rw [hr] at h; have := vp_t h; omega
          · exact c
        clear hr hss
        go_enter Tryd.func3, Tryd.ntmps3
        go_wp2_with (first | (go_at_call 4; refine (rprice_any _ _).mono ?_; rintro e w' ⟨rfl, rfl⟩) | (go_at_call 5; refine (rside_any _ _).mono ?_; rintro e w' ⟨rfl, rfl⟩) | (go_at_call 12; refine (rahead_any _ _ _ _ (by assumption)).mono ?_; rintro e w' ⟨rfl, rfl⟩) | (go_at_call 7; ((with_reducible refine (cP _).mono ?_); rintro e w' ⟨rfl, rfl⟩)) | (go_at_call 8; ((with_reducible refine (cO _).mono ?_); rintro e w' ⟨rfl, rfl⟩)) | (go_at_call 9; ((with_reducible refine (cR _).mono ?_); rintro e w' ⟨rfl, rfl⟩)) | (go_at_call 10; ((with_reducible refine (cB _).mono ?_); rintro e w' ⟨rfl, rfl⟩)) | (go_at_call 11; ((with_reducible refine (cT _).mono ?_); rintro e w' ⟨rfl, rfl⟩)) | (go_at_call 6; first | ((with_reducible refine (same_nil _ _).mono ?_); rintro e w' ⟨rfl, rfl⟩) | ((with_reducible refine (same_er _ _ _ (by assumption)).mono ?_); rintro e w' ⟨rfl, hb⟩; have hl := Laid.below (by assumption) hb)))
        all_goals (go_ret; refine ⟨rfl, ?_⟩; (repeat (first | exact Below.refl _ _ | assumption | (refine below_then (by assumption) ?_) | (refine below_then_alloc ?_) | (refine Below.drew ?_))))
end Go.Proofs.YtbapcgihnddjfaaDoor
