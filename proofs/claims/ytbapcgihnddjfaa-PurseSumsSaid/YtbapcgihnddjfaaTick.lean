/- The contracts of package tick. -/
import Derived.Test.YtbapcgihnddjfaaBase
namespace Go.Proofs.Ytbapcgihnddjfaa
open Go.RowKit

/-- a number is a price -/
def vp (p : Int) : Bool := decide (1 ≤ p ∧ p ≤ 10000)
theorem vp_t {p : Int} (h : vp p = true) : 1 ≤ p ∧ p ≤ 10000 := by simpa [vp] using h
theorem vp_f {p : Int} (h : vp p = false) : p < 1 ∨ 10000 < p := by
  simp [vp] at h; omega
theorem vp_y {p : Int} (h : 1 ≤ p ∧ p ≤ 10000) : vp p = true := by simpa [vp] using h
theorem vp_n {p : Int} (h : p < 1 ∨ 10000 < p) : vp p = false := by simp [vp]; omega
/-- a number is a side -/
def vs (s : Int) : Bool := decide (s = 1 ∨ s = 2)
theorem vs_t {s : Int} (h : vs s = true) : 1 ≤ s ∧ s ≤ 2 := by simp [vs] at h; omega
theorem vs_f {s : Int} (h : vs s = false) : s < 1 ∨ 2 < s := by simp [vs] at h; omega
theorem vs_y {s : Int} (h : 1 ≤ s ∧ s ≤ 2) : vs s = true := by simp [vs]; omega
theorem vs_n {s : Int} (h : s < 1 ∨ 2 < s) : vs s = false := by simp [vs]; omega

theorem valid_any (p : Int) (w : World) :
    Calls Try.prog 41 #[.int .i64 p] w fun e w' => e = .returned (.bool (vp p)) ∧ w = w' := by
  have hc : p < 1 ∨ (1 ≤ p ∧ 10000 < p) ∨ (1 ≤ p ∧ p ≤ 10000) := by omega
  rcases hc with h | ⟨h, h2⟩ | ⟨h, h2⟩
  all_goals
    go_enter Try.func41, Try.ntmps41
    go_wp2
    go_ret
    refine ⟨ret_bool ?_, rfl⟩
    simp [vp]
    try omega
theorem side_any (p : Int) (w : World) :
    Calls Try.prog 42 #[.int .i64 p] w fun e w' => e = .returned (.bool (vs p)) ∧ w = w' := by
  go_enter Try.func42, Try.ntmps42
  go_wp2
  all_goals
    go_ret
    refine ⟨ret_bool ?_, rfl⟩
    rw [Bool.eq_iff_iff]
    simp [vs]
    try omega
theorem on_bad (p n : Int) (w : World) (h : p < 1 ∨ 10000 < p ∨ n < 1 ∨ 100 < n) :
    Calls Try.prog 18 #[.int .i64 p, .int .i64 n] w fun e w' => e = .returned (.tuple #[.bool false, er 1]) ∧ w = w' := by
  have hc : p < 1 ∨ (1 ≤ p ∧ 10000 < p) ∨ (1 ≤ p ∧ p ≤ 10000 ∧ n < 1) ∨ (1 ≤ p ∧ p ≤ 10000 ∧ 1 ≤ n ∧ 100 < n) := by omega
  clear h
  rcases hc with h | ⟨h, h2⟩ | ⟨h, h2, h3⟩ | ⟨h, h2, h3, h4⟩
  all_goals
    go_enter Try.func18, Try.ntmps18
    go_wp2
    go_ret2
    exact ⟨rfl, rfl⟩
theorem on_ok (p n : Int) (w : World) (h1 : 1 ≤ p) (h2 : p ≤ 10000) (h3 : 1 ≤ n) (h4 : n ≤ 100) :
    Calls Try.prog 18 #[.int .i64 p, .int .i64 n] w fun e w' => e = .returned (.tuple #[.bool (p % n == 0), .nilIface]) ∧ w = w' := by
  go_enter Try.func18, Try.ntmps18
  go_wp2
  go_ret2
  exact ⟨rfl, rfl⟩
/-- what Round comes to -/
def rnd (p n s : Int) : Int := if s = 2 ∧ p % n ≠ 0 then p - p % n + n else p - p % n
def okR (p n s : Int) : Bool := decide (1 ≤ p ∧ p ≤ 10000 ∧ 1 ≤ n ∧ n ≤ 100 ∧ 1 ≤ s ∧ s ≤ 2)
theorem round_bad (p n s : Int) (w : World) (h : okR p n s = false) :
    Calls Try.prog 16 #[.int .i64 p, .int .i64 n, .int .i64 s] w fun e w' => e = .returned (.tuple #[.int .i64 0, er 1]) ∧ w = w' := by
  have hc : p < 1 ∨ (1 ≤ p ∧ 10000 < p) ∨ (1 ≤ p ∧ p ≤ 10000 ∧ n < 1) ∨ (1 ≤ p ∧ p ≤ 10000 ∧ 1 ≤ n ∧ 100 < n) ∨ (1 ≤ p ∧ p ≤ 10000 ∧ 1 ≤ n ∧ n ≤ 100 ∧ s < 1) ∨ (1 ≤ p ∧ p ≤ 10000 ∧ 1 ≤ n ∧ n ≤ 100 ∧ 2 < s) := by
    simp [okR] at h; omega
  clear h
  rcases hc with h | ⟨h, h2⟩ | ⟨h, h2, h3⟩ | ⟨h, h2, h3, h4⟩ | ⟨h, h2, h3, h4, h5⟩ | ⟨h, h2, h3, h4, h5⟩
  all_goals
    try have e1 : (s == 1) = false := by simp; omega
    try have e2 : (s == 2) = false := by simp; omega
    go_enter Try.func16, Try.ntmps16
    go_wp2
    go_ret2
    exact ⟨rfl, rfl⟩
theorem round_ok (p n s : Int) (w : World) (h : okR p n s = true) :
    Calls Try.prog 16 #[.int .i64 p, .int .i64 n, .int .i64 s] w fun e w' => (vp (rnd p n s) = true ∧ e = .returned (.tuple #[.int .i64 (rnd p n s), .nilIface]) ∨ vp (rnd p n s) = false ∧ e = .returned (.tuple #[.int .i64 0, er 1])) ∧ w = w' := by
  obtain ⟨h1, h2, h3, h4, h5, h6⟩ : 1 ≤ p ∧ p ≤ 10000 ∧ 1 ≤ n ∧ n ≤ 100 ∧ 1 ≤ s ∧ s ≤ 2 := by simpa [okR] using h
  clear h
  have hm := Int.emod_nonneg p (show n ≠ 0 by omega)
  have hl := Int.emod_lt_of_pos p (show 0 < n by omega)
  have hp : p % n ≤ p := by
    have := Int.mul_ediv_add_emod p n
    have := Int.mul_nonneg (show 0 ≤ n by omega) (Int.ediv_nonneg (show 0 ≤ p by omega) (show 0 ≤ n by omega))
    omega
  suffices H : ∀ k, k = rnd p n s → Calls Try.prog 16 #[.int .i64 p, .int .i64 n, .int .i64 s] w fun e w' => (if vp k then e = .returned (.tuple #[.int .i64 k, .nilIface]) else e = .returned (.tuple #[.int .i64 0, er 1])) ∧ w = w' by
    refine (H _ rfl).mono fun e w' ⟨h, hw⟩ => ⟨?_, hw⟩
    cases hv : vp (rnd p n s)
    · right; simpa [hv] using h
    · left; simpa [hv] using h
  have hc : (s = 1 ∧ 1 ≤ p - p % n) ∨ (s = 1 ∧ p - p % n < 1) ∨ (s = 2 ∧ p % n = 0) ∨ (s = 2 ∧ 1 ≤ p % n ∧ p - p % n + n ≤ 10000) ∨ (s = 2 ∧ 1 ≤ p % n ∧ 10000 < p - p % n + n) := by omega
  rcases hc with ⟨rfl, c1⟩ | ⟨rfl, c1⟩ | ⟨rfl, c1⟩ | ⟨rfl, c1, c2⟩ | ⟨rfl, c1, c2⟩
  · intro k hk
    obtain rfl : k = p - p % n := by rw [hk]; simp [rnd]
    have hv : vp (p - p % n) = true := vp_y (by omega)
    rw [hv]; clear hk
    have hvp : vp p = true := vp_y ⟨h1, h2⟩
    go_enter Try.func16, Try.ntmps16
    go_wp2_with (first | (go_at_call 41; refine (valid_any _ _).mono ?_; rintro e w' ⟨rfl, rfl⟩) | go_in)
    go_ret2
    exact ⟨rfl, rfl⟩
  · intro k hk
    obtain rfl : k = p - p % n := by rw [hk]; simp [rnd]
    have hv : vp (p - p % n) = false := vp_n (by omega)
    rw [hv]; clear hk
    have hvp : vp p = true := vp_y ⟨h1, h2⟩
    go_enter Try.func16, Try.ntmps16
    go_wp2_with (first | (go_at_call 41; refine (valid_any _ _).mono ?_; rintro e w' ⟨rfl, rfl⟩) | go_in)
    go_ret2
    exact ⟨rfl, rfl⟩
  · intro k hk
    obtain rfl : k = p - p % n := by rw [hk]; simp [rnd, c1]
    have hv : vp (p - p % n) = true := vp_y (by omega)
    rw [hv]; clear hk
    have hvp : vp p = true := vp_y ⟨h1, h2⟩
    have c2 : p % n ≤ 0 := by omega
    clear c1
    go_enter Try.func16, Try.ntmps16
    go_wp2_with (first | (go_at_call 41; refine (valid_any _ _).mono ?_; rintro e w' ⟨rfl, rfl⟩) | go_in)
    go_ret2
    exact ⟨rfl, rfl⟩
  · intro k hk
    obtain rfl : k = p - p % n + n := by rw [hk]; simp [rnd]; omega
    have hv : vp (p - p % n + n) = true := vp_y (by omega)
    rw [hv]; clear hk
    have hvp : vp p = true := vp_y ⟨h1, h2⟩
    go_enter Try.func16, Try.ntmps16
    go_wp2_with (first | (go_at_call 41; refine (valid_any _ _).mono ?_; rintro e w' ⟨rfl, rfl⟩) | go_in)
    go_ret2
    exact ⟨rfl, rfl⟩
  · intro k hk
    obtain rfl : k = p - p % n + n := by rw [hk]; simp [rnd]; omega
    have hv : vp (p - p % n + n) = false := vp_n (by omega)
    rw [hv]; clear hk
    have hvp : vp p = true := vp_y ⟨h1, h2⟩
    go_enter Try.func16, Try.ntmps16
    go_wp2_with (first | (go_at_call 41; refine (valid_any _ _).mono ?_; rintro e w' ⟨rfl, rfl⟩) | go_in)
    go_ret2
    exact ⟨rfl, rfl⟩
theorem round_ex (p n s : Int) :
    (okR p n s = true ∧ vp (rnd p n s) = true ∧ ∀ w, Calls Try.prog 16 #[.int .i64 p, .int .i64 n, .int .i64 s] w fun e w' => e = .returned (.tuple #[.int .i64 (rnd p n s), .nilIface]) ∧ w = w') ∨
    ((okR p n s = false ∨ vp (rnd p n s) = false) ∧ ∀ w, Calls Try.prog 16 #[.int .i64 p, .int .i64 n, .int .i64 s] w fun e w' => e = .returned (.tuple #[.int .i64 0, er 1]) ∧ w = w') := by
  cases h : okR p n s
  · exact .inr ⟨.inl rfl, fun w => round_bad p n s w h⟩
  · cases hv : vp (rnd p n s)
    · refine .inr ⟨.inr rfl, fun w => (round_ok p n s w h).mono ?_⟩
      rintro e w' ⟨h1, h2⟩
      refine ⟨?_, h2⟩
      rcases h1 with ⟨h, _⟩ | ⟨_, h⟩
      · rw [hv] at h; cases h
      · exact h
    · refine .inl ⟨rfl, rfl, fun w => (round_ok p n s w h).mono ?_⟩
      rintro e w' ⟨h1, h2⟩
      refine ⟨?_, h2⟩
      rcases h1 with ⟨_, h⟩ | ⟨h, _⟩
      · exact h
      · rw [hv] at h; cases h
theorem on_ex (p n : Int) :
    ((1 ≤ p ∧ p ≤ 10000 ∧ 1 ≤ n ∧ n ≤ 100) ∧ ∀ w, Calls Try.prog 18 #[.int .i64 p, .int .i64 n] w fun e w' => e = .returned (.tuple #[.bool (p % n == 0), .nilIface]) ∧ w = w') ∨
    ((p < 1 ∨ 10000 < p ∨ n < 1 ∨ 100 < n) ∧ ∀ w, Calls Try.prog 18 #[.int .i64 p, .int .i64 n] w fun e w' => e = .returned (.tuple #[.bool false, er 1]) ∧ w = w') := by
  by_cases h : 1 ≤ p ∧ p ≤ 10000 ∧ 1 ≤ n ∧ n ≤ 100
  · exact .inl ⟨h, fun w => on_ok p n w h.1 h.2.1 h.2.2.1 h.2.2.2⟩
  · exact .inr ⟨by omega, fun w => on_bad p n w (by omega)⟩
def okB (p r s : Int) : Bool := decide (1 ≤ p ∧ p ≤ 10000 ∧ 1 ≤ r ∧ r ≤ 10000 ∧ 0 ≤ s ∧ s ≤ 100)
theorem band_bad (p r s : Int) (w : World) (h : okB p r s = false) :
    Calls Try.prog 14 #[.int .i64 p, .int .i64 r, .int .i64 s] w fun e w' => e = .returned (.tuple #[.bool false, er 1]) ∧ w = w' := by
  have hc : p < 1 ∨ (1 ≤ p ∧ 10000 < p) ∨ (1 ≤ p ∧ p ≤ 10000 ∧ r < 1) ∨ (1 ≤ p ∧ p ≤ 10000 ∧ 1 ≤ r ∧ 10000 < r) ∨ (1 ≤ p ∧ p ≤ 10000 ∧ 1 ≤ r ∧ r ≤ 10000 ∧ s < 0) ∨ (1 ≤ p ∧ p ≤ 10000 ∧ 1 ≤ r ∧ r ≤ 10000 ∧ 100 < s) := by
    simp [okB] at h; omega
  clear h
  rcases hc with h | ⟨h, h2⟩ | ⟨h, h2, h3⟩ | ⟨h, h2, h3, h4⟩ | ⟨h, h2, h3, h4, h5⟩ | ⟨h, h2, h3, h4, h5⟩
  all_goals
    go_enter Try.func14, Try.ntmps14
    go_wp2
    go_ret2
    exact ⟨rfl, rfl⟩
/-- is p within s hundredths of r? -/
def inB (p r s : Int) : Bool := decide ((if p ≤ r then r - p else p - r) * 100 ≤ s * r)
theorem band_ok (p r s : Int) (w : World) (h : okB p r s = true) :
    Calls Try.prog 14 #[.int .i64 p, .int .i64 r, .int .i64 s] w fun e w' => e = .returned (.tuple #[.bool (inB p r s), .nilIface]) ∧ w = w' := by
  obtain ⟨h1, h2, h3, h4, h5, h6⟩ : 1 ≤ p ∧ p ≤ 10000 ∧ 1 ≤ r ∧ r ≤ 10000 ∧ 0 ≤ s ∧ s ≤ 100 := by simpa [okB] using h
  clear h
  have hb : s * r ≤ 1000000 := by
    have := Int.mul_le_mul h6 h4 (by omega) (by omega); omega
  have hb0 : 0 ≤ s * r := Int.mul_nonneg h5 (by omega)
  by_cases c : p ≤ r
  all_goals
    go_enter Try.func14, Try.ntmps14
    go_wp2
    all_goals
      go_ret2
      refine ⟨ret2_bool ?_, rfl⟩
      simp only [inB]
      split <;> first | rfl | (exfalso; omega) | (rw [show p - r = r - p by omega])
theorem band_ex (p r s : Int) :
    (okB p r s = true ∧ ∀ w, Calls Try.prog 14 #[.int .i64 p, .int .i64 r, .int .i64 s] w fun e w' => e = .returned (.tuple #[.bool (inB p r s), .nilIface]) ∧ w = w') ∨
    (okB p r s = false ∧ ∀ w, Calls Try.prog 14 #[.int .i64 p, .int .i64 r, .int .i64 s] w fun e w' => e = .returned (.tuple #[.bool false, er 1]) ∧ w = w') := by
  cases h : okB p r s
  · exact .inr ⟨rfl, fun w => band_bad p r s w h⟩
  · exact .inl ⟨rfl, fun w => band_ok p r s w h⟩
def okT (s a b : Int) : Bool := decide (1 ≤ a ∧ a ≤ 10000 ∧ 1 ≤ b ∧ b ≤ 10000 ∧ 1 ≤ s ∧ s ≤ 2)
theorem better_bad (s a b : Int) (w : World) (h : okT s a b = false) :
    Calls Try.prog 17 #[.int .i64 s, .int .i64 a, .int .i64 b] w fun e w' => e = .returned (.tuple #[.bool false, er 1]) ∧ w = w' := by
  have hc : vs s = false ∨ (vs s = true ∧ vp a = false) ∨ (vs s = true ∧ vp a = true ∧ vp b = false) := by
    simp [okT] at h; simp [vs, vp]; omega
  clear h
  rcases hc with h | ⟨h, h2⟩ | ⟨h, h2, h3⟩
  all_goals
    go_enter Try.func17, Try.ntmps17
    go_wp2_with (first | (go_at_call 41; refine (valid_any _ _).mono ?_; rintro e w' ⟨rfl, rfl⟩) | (go_at_call 42; refine (side_any _ _).mono ?_; rintro e w' ⟨rfl, rfl⟩) | go_in)
    go_ret2
    exact ⟨rfl, rfl⟩
/-- is a ahead of b, for who comes from a side? -/
def ahd (s a b : Int) : Bool := if s = 1 then decide (a < b) else decide (b < a)
theorem better_ok (s a b : Int) (w : World) (h : okT s a b = true) :
    Calls Try.prog 17 #[.int .i64 s, .int .i64 a, .int .i64 b] w fun e w' => e = .returned (.tuple #[.bool (ahd s a b), .nilIface]) ∧ w = w' := by
  obtain ⟨h1, h2, h3, h4, h5, h6⟩ : 1 ≤ a ∧ a ≤ 10000 ∧ 1 ≤ b ∧ b ≤ 10000 ∧ 1 ≤ s ∧ s ≤ 2 := by simpa [okT] using h
  clear h
  have ha : vp a = true := vp_y ⟨h1, h2⟩
  have hb : vp b = true := vp_y ⟨h3, h4⟩
  have hs : vs s = true := vs_y ⟨h5, h6⟩
  have hc : s = 1 ∨ s = 2 := by omega
  rcases hc with rfl | rfl
  all_goals
    go_enter Try.func17, Try.ntmps17
    go_wp2_with (first | (go_at_call 41; refine (valid_any _ _).mono ?_; rintro e w' ⟨rfl, rfl⟩) | (go_at_call 42; refine (side_any _ _).mono ?_; rintro e w' ⟨rfl, rfl⟩) | go_in)
    go_ret2
    exact ⟨rfl, rfl⟩
theorem better_ex (s a b : Int) :
    (okT s a b = true ∧ ∀ w, Calls Try.prog 17 #[.int .i64 s, .int .i64 a, .int .i64 b] w fun e w' => e = .returned (.tuple #[.bool (ahd s a b), .nilIface]) ∧ w = w') ∨
    (okT s a b = false ∧ ∀ w, Calls Try.prog 17 #[.int .i64 s, .int .i64 a, .int .i64 b] w fun e w' => e = .returned (.tuple #[.bool false, er 1]) ∧ w = w') := by
  cases h : okT s a b
  · exact .inr ⟨rfl, fun w => better_bad s a b w h⟩
  · exact .inl ⟨rfl, fun w => better_ok s a b w h⟩
end Go.Proofs.Ytbapcgihnddjfaa
