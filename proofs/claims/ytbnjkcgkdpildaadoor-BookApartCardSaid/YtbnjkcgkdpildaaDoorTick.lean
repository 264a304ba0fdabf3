/- The contracts of package tick. -/
import Derived.Test.YtbnjkcgkdpildaaDoorBase
namespace Go.Proofs.YtbnjkcgkdpildaaDoor
set_option linter.all false
open Go.RowKit

/-- a number is a price -/
def vp (p : Int) : Bool := decide (1 ≤ p ∧ p ≤ 10000)
theorem vp_t {p : Int} (h : vp p = true) : 1 ≤ p ∧ p ≤ 10000 := by simpa [vp] using h
theorem vp_f {p : Int} (h : vp p = false) : p < 1 ∨ 10000 < p := by
  simp [vp] at h; omega
theorem vp_y {p : Int} (h : 1 ≤ p ∧ p ≤ 10000) : vp p = true := by simpa [vp] using h
theorem vp_n {p : Int} (h : p < 1 ∨ 10000 < p) : vp p = false := by simp [vp]; omega
/-- a number is a side -/
def vs (s : Int) : Bool := decide (s = 1 ∨ s = 2)
theorem vs_t {s : Int} (h : vs s = true) : 1 ≤ s ∧ s ≤ 2 := by simp [vs] at h; omega
theorem vs_f {s : Int} (h : vs s = false) : s < 1 ∨ 2 < s := by simp [vs] at h; omega
theorem vs_y {s : Int} (h : 1 ≤ s ∧ s ≤ 2) : vs s = true := by simp [vs]; omega
theorem vs_n {s : Int} (h : s < 1 ∨ 2 < s) : vs s = false := by simp [vs]; omega

theorem valid_any (p : Int) (w : World) :
    Calls Tryd.prog 57 #[.int .i64 p] w fun e w' => e = .returned (.bool (vp p)) ∧ w = w' := by
  have hc : p < 1 ∨ (1 ≤ p ∧ 10000 < p) ∨ (1 ≤ p ∧ p ≤ 10000) := by omega
  rcases hc with h | ⟨h, h2⟩ | ⟨h, h2⟩
  all_goals
    go_enter Tryd.func57, Tryd.ntmps57
    go_wp2
    go_ret
    refine ⟨ret_bool ?_, rfl⟩
    simp [vp]
    try omega
theorem side_any (p : Int) (w : World) :
    Calls Tryd.prog 27 #[.int .i64 p] w fun e w' => e = .returned (.bool (vs p)) ∧ w = w' := by
  go_enter Tryd.func27, Tryd.ntmps27
  go_wp2
  all_goals
    go_ret
    refine ⟨ret_bool ?_, rfl⟩
    rw [Bool.eq_iff_iff]
    simp [vs]
    try omega
end Go.Proofs.YtbnjkcgkdpildaaDoor
