/- The contracts of package order. -/
import Derived.Test.YtbnjkcgkdpildaaDoorTick
namespace Go.Proofs.YtbnjkcgkdpildaaDoor
set_option linter.all false
open Go.RowKit

/-- a number is within bounds -/
def inb (n l h : Int) : Bool := decide (l ≤ n ∧ n ≤ h)
theorem inb_t {n l h : Int} (e : inb n l h = true) : l ≤ n ∧ n ≤ h := by simpa [inb] using e
theorem inb_f {n l h : Int} (e : inb n l h = false) : n < l ∨ h < n := by simp [inb] at e; omega
theorem inb_y {n l h : Int} (e : l ≤ n ∧ n ≤ h) : inb n l h = true := by simpa [inb] using e
theorem inb_n {n l h : Int} (e : n < l ∨ h < n) : inb n l h = false := by simp [inb]; omega
theorem within_any (n l h : Int) (w : World) :
    Calls Tryd.prog 75 #[.int .i64 n, .int .i64 l, .int .i64 h] w fun e w' => e = .returned (.bool (inb n l h)) ∧ w = w' := by
  have hc : n < l ∨ (l ≤ n ∧ h < n) ∨ (l ≤ n ∧ n ≤ h) := by omega
  rcases hc with h | ⟨h, h2⟩ | ⟨h, h2⟩
  all_goals
    go_enter Tryd.func75, Tryd.ntmps75
    go_wp2
    go_ret
    refine ⟨ret_bool ?_, rfl⟩
    simp [inb]
    try omega
theorem id_any (n : Int) (w : World) : Calls Tryd.prog 60 #[.int .i64 n] w fun e w' => e = .returned (.bool (inb n 1 9999)) ∧ w = w' := by
  go_enter Tryd.func60, Tryd.ntmps60
  go_wp2_with (go_at_call 75; refine (within_any _ _ _ _).mono ?_; rintro e w' ⟨rfl, rfl⟩)
  go_ret
  exact ⟨rfl, rfl⟩
theorem who_any (n : Int) (w : World) : Calls Tryd.prog 61 #[.int .i64 n] w fun e w' => e = .returned (.bool (inb n 1 9)) ∧ w = w' := by
  go_enter Tryd.func61, Tryd.ntmps61
  go_wp2_with (go_at_call 75; refine (within_any _ _ _ _).mono ?_; rintro e w' ⟨rfl, rfl⟩)
  go_ret
  exact ⟨rfl, rfl⟩
theorem qty_any (n : Int) (w : World) : Calls Tryd.prog 62 #[.int .i64 n] w fun e w' => e = .returned (.bool (inb n 1 10000)) ∧ w = w' := by
  go_enter Tryd.func62, Tryd.ntmps62
  go_wp2_with (go_at_call 75; refine (within_any _ _ _ _).mono ?_; rintro e w' ⟨rfl, rfl⟩)
  go_ret
  exact ⟨rfl, rfl⟩
structure Order where
  id : Int
  who : Int
  side : Int
  kind : Int
  price : Int
  qty : Int
  show_ : Int
  stop : Int
abbrev Order.val (o : Order) : Value := .agg #[.int .i64 o.id, .int .i64 o.who, .int .i64 o.side, .int .i64 o.kind, .int .i64 o.price, .int .i64 o.qty, .int .i64 o.show_, .int .i64 o.stop]
/-- what is wrong with an order: 0 nothing -/
def Order.err (o : Order) : Int :=
  if !inb o.id 1 9999 || !inb o.who 1 9 || !vs o.side || !inb o.kind 1 5 then 1
  else if o.kind == 2 && !(o.price == 0) || !(o.kind == 2) && !vp o.price then 1
  else if !inb o.qty 1 10000 || !inb o.show_ 0 o.qty then 1
  else if !(o.show_ == 0) && !(o.kind == 1) && !(o.kind == 5) then 3
  else if !(o.stop == 0) && !vp o.stop then 1
  else 0
/-- the error of a number -/
def errV (k : Int) : Value := if k = 0 then .nilIface else er k
set_option maxHeartbeats 1000000 in
theorem check_any (o : Order) (w : World) :
    Calls Tryd.prog 52 #[o.val] w fun e w' => e = .returned (errV o.err) ∧ w' = w.alloc (.cells #[.int .i64 o.id, .int .i64 o.who, .int .i64 o.side, .int .i64 o.kind, .int .i64 o.price, .int .i64 o.qty, .int .i64 o.show_, .int .i64 o.stop] 36) := by
  obtain ⟨id, who, side, kind, price, qty, show_, stop⟩ := o
  show Calls Tryd.prog 52 #[.agg #[.int .i64 id, .int .i64 who, .int .i64 side, .int .i64 kind, .int .i64 price, .int .i64 qty, .int .i64 show_, .int .i64 stop]] w _
  go_enter Tryd.func52, Tryd.ntmps52
  go_wp2_with (first | (go_at_call 75; refine (within_any _ _ _ _).mono ?_; rintro e w' ⟨rfl, rfl⟩) | (go_at_call 57; refine (valid_any _ _).mono ?_; rintro e w' ⟨rfl, rfl⟩) | (go_at_call 27; refine (side_any _ _).mono ?_; rintro e w' ⟨rfl, rfl⟩) | (go_at_call 60; refine (id_any _ _).mono ?_; rintro e w' ⟨rfl, rfl⟩) | (go_at_call 61; refine (who_any _ _).mono ?_; rintro e w' ⟨rfl, rfl⟩) | (go_at_call 62; refine (qty_any _ _).mono ?_; rintro e w' ⟨rfl, rfl⟩))
  all_goals
    go_ret
    constructor
    · refine congrArg Ending.returned ?_
      simp_all [Order.err, errV]
    · simp_all
abbrev Order.cells (o : Order) : Array Value := #[.int .i64 o.id, .int .i64 o.who, .int .i64 o.side, .int .i64 o.kind, .int .i64 o.price, .int .i64 o.qty, .int .i64 o.show_, .int .i64 o.stop]
/-- both ways of Check, ahead of a walk -/
theorem check_ex (o : Order) :
    (o.err = 0 ∧ ∀ w, Calls Tryd.prog 52 #[.agg #[.int .i64 o.id, .int .i64 o.who, .int .i64 o.side, .int .i64 o.kind, .int .i64 o.price, .int .i64 o.qty, .int .i64 o.show_, .int .i64 o.stop]] w fun e w' => e = .returned .nilIface ∧ w' = w.alloc (.cells #[.int .i64 o.id, .int .i64 o.who, .int .i64 o.side, .int .i64 o.kind, .int .i64 o.price, .int .i64 o.qty, .int .i64 o.show_, .int .i64 o.stop] 36)) ∨
    (o.err ≠ 0 ∧ ∀ w, Calls Tryd.prog 52 #[.agg #[.int .i64 o.id, .int .i64 o.who, .int .i64 o.side, .int .i64 o.kind, .int .i64 o.price, .int .i64 o.qty, .int .i64 o.show_, .int .i64 o.stop]] w fun e w' => e = .returned (er o.err) ∧ w' = w.alloc (.cells #[.int .i64 o.id, .int .i64 o.who, .int .i64 o.side, .int .i64 o.kind, .int .i64 o.price, .int .i64 o.qty, .int .i64 o.show_, .int .i64 o.stop] 36)) := by
  by_cases h : o.err = 0
  · exact .inl ⟨h, fun w => (check_any o w).mono fun e w' ⟨h1, h2⟩ => ⟨by rw [h1, errV, if_pos h], h2⟩⟩
  · exact .inr ⟨h, fun w => (check_any o w).mono fun e w' ⟨h1, h2⟩ => ⟨by rw [h1, errV, if_neg h], h2⟩⟩
end Go.Proofs.YtbnjkcgkdpildaaDoor
