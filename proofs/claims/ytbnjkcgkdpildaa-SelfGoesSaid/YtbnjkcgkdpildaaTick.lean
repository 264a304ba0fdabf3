/- The contracts of package tick. -/
import Derived.Test.YtbnjkcgkdpildaaBase
namespace Go.Proofs.Ytbnjkcgkdpildaa
set_option linter.all false
open Go.RowKit

/-- a number is a price -/
def vp (p : Int) : Bool := decide (1 ≤ p ∧ p ≤ 10000)
theorem vp_t {p : Int} (h : vp p = true) : 1 ≤ p ∧ p ≤ 10000 := by simpa [vp] using h
theorem vp_f {p : Int} (h : vp p = false) : p < 1 ∨ 10000 < p := by
  simp [vp] at h; omega
theorem vp_y {p : Int} (h : 1 ≤ p ∧ p ≤ 10000) : vp p = true := by simpa [vp] using h
theorem vp_n {p : Int} (h : p < 1 ∨ 10000 < p) : vp p = false := by simp [vp]; omega
/-- a number is a side -/
def vs (s : Int) : Bool := decide (s = 1 ∨ s = 2)
theorem vs_t {s : Int} (h : vs s = true) : 1 ≤ s ∧ s ≤ 2 := by simp [vs] at h; omega
theorem vs_f {s : Int} (h : vs s = false) : s < 1 ∨ 2 < s := by simp [vs] at h; omega
theorem vs_y {s : Int} (h : 1 ≤ s ∧ s ≤ 2) : vs s = true := by simp [vs]; omega
theorem vs_n {s : Int} (h : s < 1 ∨ 2 < s) : vs s = false := by simp [vs]; omega

theorem valid_any (p : Int) (w : World) :
    Calls Try.prog 52 #[.int .i64 p] w fun e w' => e = .returned (.bool (vp p)) ∧ w = w' := by
  have hc : p < 1 ∨ (1 ≤ p ∧ 10000 < p) ∨ (1 ≤ p ∧ p ≤ 10000) := by omega
  rcases hc with h | ⟨h, h2⟩ | ⟨h, h2⟩
  all_goals
    go_enter Try.func52, Try.ntmps52
    go_wp2
    go_ret
    refine ⟨ret_bool ?_, rfl⟩
    simp [vp]
    try omega
theorem side_any (p : Int) (w : World) :
    Calls Try.prog 46 #[.int .i64 p] w fun e w' => e = .returned (.bool (vs p)) ∧ w = w' := by
  go_enter Try.func46, Try.ntmps46
  go_wp2
  all_goals
    go_ret
    refine ⟨ret_bool ?_, rfl⟩
    rw [Bool.eq_iff_iff]
    simp [vs]
    try omega
def okT (s a b : Int) : Bool := decide (1 ≤ a ∧ a ≤ 10000 ∧ 1 ≤ b ∧ b ≤ 10000 ∧ 1 ≤ s ∧ s ≤ 2)
theorem better_bad (s a b : Int) (w : World) (h : okT s a b = false) :
    Calls Try.prog 18 #[.int .i64 s, .int .i64 a, .int .i64 b] w fun e w' => e = .returned (.tuple #[.bool false, er 1]) ∧ w = w' := by
  have hc : vs s = false ∨ (vs s = true ∧ vp a = false) ∨ (vs s = true ∧ vp a = true ∧ vp b = false) := by
    simp [okT] at h; simp [vs, vp]; omega
  clear h
  rcases hc with h | ⟨h, h2⟩ | ⟨h, h2, h3⟩
  all_goals
    go_enter Try.func18, Try.ntmps18
    go_wp2_with (first | (go_at_call 52; refine (valid_any _ _).mono ?_; rintro e w' ⟨rfl, rfl⟩) | (go_at_call 46; refine (side_any _ _).mono ?_; rintro e w' ⟨rfl, rfl⟩) | go_in)
    go_ret2
    exact ⟨rfl, rfl⟩
/-- is a ahead of b, for who comes from a side? -/
def ahd (s a b : Int) : Bool := if s = 1 then decide (a < b) else decide (b < a)
theorem better_ok (s a b : Int) (w : World) (h : okT s a b = true) :
    Calls Try.prog 18 #[.int .i64 s, .int .i64 a, .int .i64 b] w fun e w' => e = .returned (.tuple #[.bool (ahd s a b), .nilIface]) ∧ w = w' := by
  obtain ⟨h1, h2, h3, h4, h5, h6⟩ : 1 ≤ a ∧ a ≤ 10000 ∧ 1 ≤ b ∧ b ≤ 10000 ∧ 1 ≤ s ∧ s ≤ 2 := by simpa [okT] using h
  clear h
  have ha : vp a = true := vp_y ⟨h1, h2⟩
  have hb : vp b = true := vp_y ⟨h3, h4⟩
  have hs : vs s = true := vs_y ⟨h5, h6⟩
  have hc : s = 1 ∨ s = 2 := by omega
  rcases hc with rfl | rfl
  all_goals
    go_enter Try.func18, Try.ntmps18
    go_wp2_with (first | (go_at_call 52; refine (valid_any _ _).mono ?_; rintro e w' ⟨rfl, rfl⟩) | (go_at_call 46; refine (side_any _ _).mono ?_; rintro e w' ⟨rfl, rfl⟩) | go_in)
    go_ret2
    exact ⟨rfl, rfl⟩
theorem better_ex (s a b : Int) :
    (okT s a b = true ∧ ∀ w, Calls Try.prog 18 #[.int .i64 s, .int .i64 a, .int .i64 b] w fun e w' => e = .returned (.tuple #[.bool (ahd s a b), .nilIface]) ∧ w = w') ∨
    (okT s a b = false ∧ ∀ w, Calls Try.prog 18 #[.int .i64 s, .int .i64 a, .int .i64 b] w fun e w' => e = .returned (.tuple #[.bool false, er 1]) ∧ w = w') := by
  cases h : okT s a b
  · exact .inr ⟨rfl, fun w => better_bad s a b w h⟩
  · exact .inl ⟨rfl, fun w => better_ok s a b w h⟩
end Go.Proofs.Ytbnjkcgkdpildaa
