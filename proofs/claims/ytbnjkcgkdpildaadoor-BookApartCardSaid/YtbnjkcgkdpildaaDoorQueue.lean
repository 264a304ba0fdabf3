/- The contracts of package queue: One, Find, Check. -/
import Derived.Test.YtbnjkcgkdpildaaDoorOrder
import Derived.Test.YtbnjkcgkdpildaaDoorRegion
import Derived.Test.YtbnjkcgkdpildaaDoorBlk
namespace Go.Proofs.YtbnjkcgkdpildaaDoor
set_option linter.all false
open Go.RowKit
structure Rest where
  id : Int
  who : Int
  qty : Int
  hidden : Int
  show_ : Int
  deriving DecidableEq
def rest0 : Rest := ⟨0, 0, 0, 0, 0⟩
def Rest.vals (r : Rest) : List Value := [.int .i64 r.id, .int .i64 r.who, .int .i64 r.qty, .int .i64 r.hidden, .int .i64 r.show_]
theorem Rest.vals_len (r : Rest) : r.vals.length = 5 := rfl
/-- what is wrong with a rest -/
def Rest.err (r : Rest) : Int :=
  if !inb r.id 1 9999 || !inb r.who 1 9 || !inb r.qty 1 10000 then 1
  else if !inb r.hidden 0 10000 || !inb r.show_ 0 10000 then 1
  else if r.show_ == 0 && !(r.hidden == 0) || !(r.show_ == 0) && decide (r.show_ < r.qty) then 3
  else 0
theorem Rest.err_eq {id who qty hidden show_ : Int} (h : inb id 1 9999 = true) (h1 : inb who 1 9 = true) (h2 : inb qty 1 10000 = true) :
    Rest.err ⟨id, who, qty, hidden, show_⟩ = if hidden < 0 ∨ 10000 < hidden ∨ show_ < 0 ∨ 10000 < show_ then 1 else if (show_ = 0 ∧ hidden ≠ 0) ∨ (show_ ≠ 0 ∧ show_ < qty) then 3 else 0 := by
  have hh : inb hidden 0 10000 = decide (¬ (hidden < 0 ∨ 10000 < hidden)) := by unfold inb; congr 1; rw [eq_iff_iff]; omega
  have hs : inb show_ 0 10000 = decide (¬ (show_ < 0 ∨ 10000 < show_)) := by unfold inb; congr 1; rw [eq_iff_iff]; omega
  simp only [Rest.err, h, h1, h2, hh, hs]
  by_cases a : hidden < 0 ∨ 10000 < hidden <;> by_cases b : show_ < 0 ∨ 10000 < show_ <;> simp [a, b] <;> omega
set_option maxHeartbeats 1000000 in
theorem one_any (r : Rest) (w : World) :
    Calls Tryd.prog 37 #[.agg #[.int .i64 r.id, .int .i64 r.who, .int .i64 r.qty, .int .i64 r.hidden, .int .i64 r.show_]] w fun e w' => e = .returned (errV r.err) ∧ w' = w.alloc (.cells #[.int .i64 r.id, .int .i64 r.who, .int .i64 r.qty, .int .i64 r.hidden, .int .i64 r.show_] 23) := by
  obtain ⟨id, who, qty, hidden, show_⟩ := r
  have hc : inb id 1 9999 = false ∨ (inb id 1 9999 = true ∧ inb who 1 9 = false) ∨ (inb id 1 9999 = true ∧ inb who 1 9 = true ∧ inb qty 1 10000 = false) ∨ (inb id 1 9999 = true ∧ inb who 1 9 = true ∧ inb qty 1 10000 = true) := by
    cases inb id 1 9999 <;> cases inb who 1 9 <;> cases inb qty 1 10000 <;> simp
  rcases hc with h | ⟨h, h1⟩ | ⟨h, h1, h2⟩ | ⟨h, h1, h2⟩
  case inr.inr.inr =>
    have hd : hidden < 0 ∨ (0 ≤ hidden ∧ 10000 < hidden) ∨ (0 ≤ hidden ∧ hidden ≤ 10000 ∧ show_ < 0) ∨ (0 ≤ hidden ∧ hidden ≤ 10000 ∧ 0 ≤ show_ ∧ 10000 < show_) ∨ (0 ≤ hidden ∧ hidden ≤ 10000 ∧ 0 = show_ ∧ 1 ≤ hidden) ∨ (0 = hidden ∧ 0 = show_) ∨ (0 ≤ hidden ∧ hidden ≤ 10000 ∧ 1 ≤ show_ ∧ show_ ≤ 10000 ∧ show_ < qty) ∨ (0 ≤ hidden ∧ hidden ≤ 10000 ∧ 1 ≤ show_ ∧ show_ ≤ 10000 ∧ qty ≤ show_) := by omega
    rcases hd with a | ⟨a, b⟩ | ⟨a, b, c⟩ | ⟨a, b, c, d⟩ | ⟨a, b, rfl, d⟩ | ⟨rfl, rfl⟩ | ⟨a, b, c, d, f⟩ | ⟨a, b, c, d, f⟩
    case inr.inr.inr.inr.inl =>
      rw [show Rest.err ⟨id, who, qty, hidden, 0⟩ = 3 by (rw [Rest.err_eq h h1 h2]; (repeat' split) <;> first | rfl | omega), show errV 3 = er 3 from rfl]
      have e1 : (hidden == 0) = false := by simp; omega
      go_enter Tryd.func37, Tryd.ntmps37
      go_wp2_with (first | (go_at_call 60; refine (id_any _ _).mono ?_; rintro e w' ⟨rfl, rfl⟩) | (go_at_call 61; refine (who_any _ _).mono ?_; rintro e w' ⟨rfl, rfl⟩) | (go_at_call 62; refine (qty_any _ _).mono ?_; rintro e w' ⟨rfl, rfl⟩))
      go_ret
      exact ⟨rfl, rfl⟩
    case inr.inr.inr.inr.inr.inl =>
      rw [show Rest.err ⟨id, who, qty, 0, 0⟩ = 0 by (rw [Rest.err_eq h h1 h2]; (repeat' split) <;> first | rfl | omega), show errV 0 = .nilIface from rfl]
      go_enter Tryd.func37, Tryd.ntmps37
      go_wp2_with (first | (go_at_call 60; refine (id_any _ _).mono ?_; rintro e w' ⟨rfl, rfl⟩) | (go_at_call 61; refine (who_any _ _).mono ?_; rintro e w' ⟨rfl, rfl⟩) | (go_at_call 62; refine (qty_any _ _).mono ?_; rintro e w' ⟨rfl, rfl⟩))
      go_ret
      exact ⟨rfl, rfl⟩
    case inr.inr.inr.inr.inr.inr.inl =>
      rw [show Rest.err ⟨id, who, qty, hidden, show_⟩ = 3 by (rw [Rest.err_eq h h1 h2]; (repeat' split) <;> first | rfl | omega), show errV 3 = er 3 from rfl]
      have e1 : (show_ == 0) = false := by simp; omega
      go_enter Tryd.func37, Tryd.ntmps37
      go_wp2_with (first | (go_at_call 60; refine (id_any _ _).mono ?_; rintro e w' ⟨rfl, rfl⟩) | (go_at_call 61; refine (who_any _ _).mono ?_; rintro e w' ⟨rfl, rfl⟩) | (go_at_call 62; refine (qty_any _ _).mono ?_; rintro e w' ⟨rfl, rfl⟩))
      go_ret
      exact ⟨rfl, rfl⟩
    case inr.inr.inr.inr.inr.inr.inr =>
      rw [show Rest.err ⟨id, who, qty, hidden, show_⟩ = 0 by (rw [Rest.err_eq h h1 h2]; (repeat' split) <;> first | rfl | omega), show errV 0 = .nilIface from rfl]
      have e1 : (show_ == 0) = false := by simp; omega
      go_enter Tryd.func37, Tryd.ntmps37
      go_wp2_with (first | (go_at_call 60; refine (id_any _ _).mono ?_; rintro e w' ⟨rfl, rfl⟩) | (go_at_call 61; refine (who_any _ _).mono ?_; rintro e w' ⟨rfl, rfl⟩) | (go_at_call 62; refine (qty_any _ _).mono ?_; rintro e w' ⟨rfl, rfl⟩))
      go_ret
      exact ⟨rfl, rfl⟩
    all_goals
      rw [show Rest.err ⟨id, who, qty, hidden, show_⟩ = 1 by (rw [Rest.err_eq h h1 h2]; (repeat' split) <;> first | rfl | omega), show errV 1 = er 1 from rfl]
      go_enter Tryd.func37, Tryd.ntmps37
      go_wp2_with (first | (go_at_call 60; refine (id_any _ _).mono ?_; rintro e w' ⟨rfl, rfl⟩) | (go_at_call 61; refine (who_any _ _).mono ?_; rintro e w' ⟨rfl, rfl⟩) | (go_at_call 62; refine (qty_any _ _).mono ?_; rintro e w' ⟨rfl, rfl⟩))
      go_ret
      exact ⟨rfl, rfl⟩
  all_goals
    rw [show Rest.err ⟨id, who, qty, hidden, show_⟩ = 1 by simp [Rest.err, *], show errV 1 = er 1 from rfl]
    go_enter Tryd.func37, Tryd.ntmps37
    go_wp2_with (first | (go_at_call 60; refine (id_any _ _).mono ?_; rintro e w' ⟨rfl, rfl⟩) | (go_at_call 61; refine (who_any _ _).mono ?_; rintro e w' ⟨rfl, rfl⟩) | (go_at_call 62; refine (qty_any _ _).mono ?_; rintro e w' ⟨rfl, rfl⟩))
    go_ret
    exact ⟨rfl, rfl⟩
end Go.Proofs.YtbnjkcgkdpildaaDoor
