/- The contracts of package wire: Check. -/
import Derived.Test.YtkdgpdijbobmkaaGreatGrpA
namespace Go.Proofs.YtkdgpdijbobmkaaGreat
set_option linter.all false
open Go.RowKit
structure Cmd where
  what : Int
  o : Order
  who : Int
  n : Int
abbrev Cmd.cells (c : Cmd) : Array Value := #[.int .i64 c.what, .int .i64 c.o.id, .int .i64 c.o.who, .int .i64 c.o.side, .int .i64 c.o.kind, .int .i64 c.o.price, .int .i64 c.o.qty, .int .i64 c.o.show_, .int .i64 c.o.stop, .int .i64 c.who, .int .i64 c.n]
/-- a struct within a struct lies flat -/
abbrev Cmd.val (c : Cmd) : Value := .agg c.cells
/-- what is wrong with a command: 0 nothing -/
def Cmd.err (c : Cmd) : Int :=
  if c.what = 1 then (if c.o.err ≠ 0 then c.o.err else if c.who ≠ 0 ∨ c.n ≠ 0 then 3 else 0)
  else if c.what = 2 then (if inb c.o.id 1 9999 = false then 1 else if c.o.who = 0 ∧ c.o.side = 0 ∧ c.o.kind = 0 ∧ c.o.price = 0 ∧ c.o.qty = 0 ∧ c.o.show_ = 0 ∧ c.o.stop = 0 ∧ c.who = 0 ∧ c.n = 0 then 0 else 3)
  else if c.what = 3 then (if inb c.o.id 1 9999 = false then 1 else if vp c.o.price = false ∨ inb c.o.qty 1 10000 = false then 1 else if c.o.who = 0 ∧ c.o.side = 0 ∧ c.o.kind = 0 ∧ c.o.show_ = 0 ∧ c.o.stop = 0 ∧ c.who = 0 ∧ c.n = 0 then 0 else 3)
  else if c.what = 4 ∨ c.what = 5 then (if inb c.who 1 9 = false ∨ c.n < 1 ∨ 1000000000 < c.n then 1 else if c.o.id = 0 ∧ c.o.who = 0 ∧ c.o.side = 0 ∧ c.o.kind = 0 ∧ c.o.price = 0 ∧ c.o.qty = 0 ∧ c.o.show_ = 0 ∧ c.o.stop = 0 then 0 else 3)
  else 1
/-- what Check ends with -/
def WChk (w : World) (k : Int) (e : Ending) (w' : World) : Prop := e = .returned (errV k) ∧ Below w.heap.size w w'
set_option maxHeartbeats 1000000 in
/-- Check, Place -/
theorem wcheck_place (o : Order) (who n : Int) (w : World) :
    Calls Tryz.prog 33 #[(Cmd.mk 1 o who n).val] w fun e w' => WChk w (Cmd.mk 1 o who n).err e w' := by
  have hc : o.err ≠ 0 ∨ (o.err = 0 ∧ who ≠ 0) ∨ (o.err = 0 ∧ 0 = who ∧ n ≠ 0) ∨ (o.err = 0 ∧ 0 = who ∧ 0 = n) := by omega
  rcases hc with h | ⟨h, h1⟩ | ⟨h, rfl, h1⟩ | ⟨h, rfl, rfl⟩
  · rcases check_ex o with ⟨h2, _⟩ | ⟨_, cC⟩
    · exact absurd h2 h
    rw [show (Cmd.mk 1 o who n).err = o.err by simp [Cmd.err, h]]
    rw [show WChk w o.err = fun e w' => e = .returned (er o.err) ∧ Below w.heap.size w w' by funext e w'; simp [WChk, errV, h]]
    generalize o.err = k at *
    clear h
    obtain ⟨id, ow, side, kind, price, qty, show_, stop⟩ := o
    dsimp only [Cmd.val, Cmd.cells] at cC ⊢
    go_enter Tryz.func33, Tryz.ntmps33
    go_wp2_with (first | (go_at_call 53; ((with_reducible refine (cC _).mono ?_); rintro e w' ⟨rfl, rfl⟩)))
    go_ret
    refine ⟨rfl, ?_⟩
    (repeat (first | exact Below.refl _ _ | assumption | (refine below_then (by assumption) ?_) | (refine below_then_alloc ?_) | (refine Below.drew ?_)))
  all_goals rcases check_ex o with ⟨_, cC⟩ | ⟨h2, _⟩
  case inr.inl.inr => exact absurd h h2
  case inr.inr.inl.inr => exact absurd h h2
  case inr.inr.inr.inr => exact absurd h h2
  case inr.inr.inr.inl =>
    rw [show (Cmd.mk 1 o 0 0).err = 0 by simp [Cmd.err, h]]
    clear h
    obtain ⟨id, ow, side, kind, price, qty, show_, stop⟩ := o
    dsimp only [Cmd.val, Cmd.cells] at cC ⊢
    go_enter Tryz.func33, Tryz.ntmps33
    go_wp2_with (first | (go_at_call 53; ((with_reducible refine (cC _).mono ?_); rintro e w' ⟨rfl, rfl⟩)))
    go_ret
    refine ⟨rfl, ?_⟩
    (repeat (first | exact Below.refl _ _ | assumption | (refine below_then (by assumption) ?_) | (refine below_then_alloc ?_) | (refine Below.drew ?_)))
  case inr.inl.inl =>
    rw [show (Cmd.mk 1 o who n).err = 3 by simp [Cmd.err, h, h1]]
    clear h
    have e1 : (who == 0) = false := by simpa using h1
    obtain ⟨id, ow, side, kind, price, qty, show_, stop⟩ := o
    dsimp only [Cmd.val, Cmd.cells] at cC ⊢
    go_enter Tryz.func33, Tryz.ntmps33
    go_wp2_with (first | (go_at_call 53; ((with_reducible refine (cC _).mono ?_); rintro e w' ⟨rfl, rfl⟩)))
    go_ret
    refine ⟨rfl, ?_⟩
    (repeat (first | exact Below.refl _ _ | assumption | (refine below_then (by assumption) ?_) | (refine below_then_alloc ?_) | (refine Below.drew ?_)))
  case inr.inr.inl.inl =>
    rw [show (Cmd.mk 1 o 0 n).err = 3 by simp [Cmd.err, h, h1]]
    clear h
    have e1 : (n == 0) = false := by simpa using h1
    obtain ⟨id, ow, side, kind, price, qty, show_, stop⟩ := o
    dsimp only [Cmd.val, Cmd.cells] at cC ⊢
    go_enter Tryz.func33, Tryz.ntmps33
    go_wp2_with (first | (go_at_call 53; ((with_reducible refine (cC _).mono ?_); rintro e w' ⟨rfl, rfl⟩)))
    go_ret
    refine ⟨rfl, ?_⟩
    (repeat (first | exact Below.refl _ _ | assumption | (refine below_then (by assumption) ?_) | (refine below_then_alloc ?_) | (refine Below.drew ?_)))
/-- are the numbers that no Cancel may have all 0? -/
def Cmd.bare2 (c : Cmd) : Bool := c.o.who == 0 && c.o.side == 0 && c.o.kind == 0 && c.o.price == 0 && c.o.qty == 0 && c.o.show_ == 0 && c.o.stop == 0 && c.who == 0 && c.n == 0
set_option maxHeartbeats 1000000 in
/-- Check, Cancel -/
theorem wcheck_cancel (o : Order) (who n : Int) (w : World) :
    Calls Tryz.prog 33 #[(Cmd.mk 2 o who n).val] w fun e w' => WChk w (Cmd.mk 2 o who n).err e w' := by
  obtain ⟨id, ow, side, kind, price, qty, show_, stop⟩ := o
  have hc : inb id 1 9999 = false ∨ (inb id 1 9999 = true ∧ (ow = 0 ∧ side = 0 ∧ kind = 0 ∧ price = 0 ∧ qty = 0 ∧ show_ = 0 ∧ stop = 0 ∧ who = 0 ∧ n = 0)) ∨ (inb id 1 9999 = true ∧ ¬ (ow = 0 ∧ side = 0 ∧ kind = 0 ∧ price = 0 ∧ qty = 0 ∧ show_ = 0 ∧ stop = 0 ∧ who = 0 ∧ n = 0)) := by
    cases inb id 1 9999
    · simp
    · simp only [true_and]; exact .inr (Decidable.em _)
  rcases hc with h | ⟨h, rfl, rfl, rfl, rfl, rfl, rfl, rfl, rfl, rfl⟩ | ⟨h, h1⟩
  · rw [show (Cmd.mk 2 ⟨id, ow, side, kind, price, qty, show_, stop⟩ who n).err = 1 by simp [Cmd.err, h]]
    dsimp only [Cmd.val, Cmd.cells]
    go_enter Tryz.func33, Tryz.ntmps33
    go_wp2_with (first | (go_at_call 62; refine (id_any _ _).mono ?_; rintro e w' ⟨rfl, rfl⟩) | (go_at_call 64; refine (who_any _ _).mono ?_; rintro e w' ⟨rfl, rfl⟩) | (go_at_call 63; refine (qty_any _ _).mono ?_; rintro e w' ⟨rfl, rfl⟩))
    go_ret
    refine ⟨rfl, ?_⟩
    (repeat (first | exact Below.refl _ _ | assumption | (refine below_then (by assumption) ?_) | (refine below_then_alloc ?_) | (refine Below.drew ?_)))
  · rw [show (Cmd.mk 2 ⟨id, 0, 0, 0, 0, 0, 0, 0⟩ 0 0).err = 0 by simp [Cmd.err, h]]
    dsimp only [Cmd.val, Cmd.cells]
    go_enter Tryz.func33, Tryz.ntmps33
    go_wp2_with (first | (go_at_call 62; refine (id_any _ _).mono ?_; rintro e w' ⟨rfl, rfl⟩) | (go_at_call 64; refine (who_any _ _).mono ?_; rintro e w' ⟨rfl, rfl⟩) | (go_at_call 63; refine (qty_any _ _).mono ?_; rintro e w' ⟨rfl, rfl⟩))
    go_ret
    refine ⟨rfl, ?_⟩
    (repeat (first | exact Below.refl _ _ | assumption | (refine below_then (by assumption) ?_) | (refine below_then_alloc ?_) | (refine Below.drew ?_)))
  · rw [show (Cmd.mk 2 ⟨id, ow, side, kind, price, qty, show_, stop⟩ who n).err = 3 by simp [Cmd.err, h, h1]]
    dsimp only [Cmd.val, Cmd.cells]
    go_enter Tryz.func33, Tryz.ntmps33
    go_wp2_with (first | (go_at_call 62; refine (id_any _ _).mono ?_; rintro e w' ⟨rfl, rfl⟩) | (go_at_call 64; refine (who_any _ _).mono ?_; rintro e w' ⟨rfl, rfl⟩) | (go_at_call 63; refine (qty_any _ _).mono ?_; rintro e w' ⟨rfl, rfl⟩))
    all_goals first | (exfalso; omega) | (go_ret; refine ⟨rfl, ?_⟩; (repeat (first | exact Below.refl _ _ | assumption | (refine below_then (by assumption) ?_) | (refine below_then_alloc ?_) | (refine Below.drew ?_))))
set_option maxHeartbeats 2000000 in
/-- Check, Swap -/
theorem wcheck_swap (o : Order) (who n : Int) (w : World) :
    Calls Tryz.prog 33 #[(Cmd.mk 3 o who n).val] w fun e w' => WChk w (Cmd.mk 3 o who n).err e w' := by
  obtain ⟨id, ow, side, kind, price, qty, show_, stop⟩ := o
  have hc : inb id 1 9999 = false ∨ (inb id 1 9999 = true ∧ vp price = false) ∨ (inb id 1 9999 = true ∧ vp price = true ∧ inb qty 1 10000 = false) ∨ (inb id 1 9999 = true ∧ vp price = true ∧ inb qty 1 10000 = true) := by
    cases inb id 1 9999 <;> cases vp price <;> cases inb qty 1 10000 <;> simp
  rcases hc with h | ⟨h, h1⟩ | ⟨h, h1, h2⟩ | ⟨h, h1, h2⟩
  · rw [show (Cmd.mk 3 ⟨id, ow, side, kind, price, qty, show_, stop⟩ who n).err = 1 by simp [Cmd.err, h]]
    dsimp only [Cmd.val, Cmd.cells]
    go_enter Tryz.func33, Tryz.ntmps33
    go_wp2_with (first | (go_at_call 62; refine (id_any _ _).mono ?_; rintro e w' ⟨rfl, rfl⟩) | (go_at_call 64; refine (who_any _ _).mono ?_; rintro e w' ⟨rfl, rfl⟩) | (go_at_call 63; refine (qty_any _ _).mono ?_; rintro e w' ⟨rfl, rfl⟩))
    go_ret
    refine ⟨rfl, ?_⟩
    (repeat (first | exact Below.refl _ _ | assumption | (refine below_then (by assumption) ?_) | (refine below_then_alloc ?_) | (refine Below.drew ?_)))
  · rw [show (Cmd.mk 3 ⟨id, ow, side, kind, price, qty, show_, stop⟩ who n).err = 1 by simp [Cmd.err, h, h1]]
    dsimp only [Cmd.val, Cmd.cells]
    go_enter Tryz.func33, Tryz.ntmps33
    go_wp2_with (first | (go_at_call 62; refine (id_any _ _).mono ?_; rintro e w' ⟨rfl, rfl⟩) | (go_at_call 64; refine (who_any _ _).mono ?_; rintro e w' ⟨rfl, rfl⟩) | (go_at_call 63; refine (qty_any _ _).mono ?_; rintro e w' ⟨rfl, rfl⟩) | (go_at_call 51; refine (valid_any _ _).mono ?_; rintro e w' ⟨rfl, rfl⟩))
    go_region
    go_wp2_with (first | (go_at_call 62; refine (id_any _ _).mono ?_; rintro e w' ⟨rfl, rfl⟩) | (go_at_call 64; refine (who_any _ _).mono ?_; rintro e w' ⟨rfl, rfl⟩) | (go_at_call 63; refine (qty_any _ _).mono ?_; rintro e w' ⟨rfl, rfl⟩) | (go_at_call 51; refine (valid_any _ _).mono ?_; rintro e w' ⟨rfl, rfl⟩))
    go_ret
    refine ⟨rfl, ?_⟩
    (repeat (first | exact Below.refl _ _ | assumption | (refine below_then (by assumption) ?_) | (refine below_then_alloc ?_) | (refine Below.drew ?_)))
  · rw [show (Cmd.mk 3 ⟨id, ow, side, kind, price, qty, show_, stop⟩ who n).err = 1 by simp [Cmd.err, h, h1, h2]]
    dsimp only [Cmd.val, Cmd.cells]
    go_enter Tryz.func33, Tryz.ntmps33
    go_wp2_with (first | (go_at_call 62; refine (id_any _ _).mono ?_; rintro e w' ⟨rfl, rfl⟩) | (go_at_call 64; refine (who_any _ _).mono ?_; rintro e w' ⟨rfl, rfl⟩) | (go_at_call 63; refine (qty_any _ _).mono ?_; rintro e w' ⟨rfl, rfl⟩) | (go_at_call 51; refine (valid_any _ _).mono ?_; rintro e w' ⟨rfl, rfl⟩))
    go_region
    go_wp2_with (first | (go_at_call 62; refine (id_any _ _).mono ?_; rintro e w' ⟨rfl, rfl⟩) | (go_at_call 64; refine (who_any _ _).mono ?_; rintro e w' ⟨rfl, rfl⟩) | (go_at_call 63; refine (qty_any _ _).mono ?_; rintro e w' ⟨rfl, rfl⟩) | (go_at_call 51; refine (valid_any _ _).mono ?_; rintro e w' ⟨rfl, rfl⟩))
    go_ret
    refine ⟨rfl, ?_⟩
    (repeat (first | exact Below.refl _ _ | assumption | (refine below_then (by assumption) ?_) | (refine below_then_alloc ?_) | (refine Below.drew ?_)))
  · rcases Decidable.em (ow = 0 ∧ side = 0 ∧ kind = 0 ∧ show_ = 0 ∧ stop = 0 ∧ who = 0 ∧ n = 0) with ⟨rfl, rfl, rfl, rfl, rfl, rfl, rfl⟩ | h3
    · rw [show (Cmd.mk 3 ⟨id, 0, 0, 0, price, qty, 0, 0⟩ 0 0).err = 0 by simp [Cmd.err, h, h1, h2]]
      dsimp only [Cmd.val, Cmd.cells]
      go_enter Tryz.func33, Tryz.ntmps33
      go_wp2_with (first | (go_at_call 62; refine (id_any _ _).mono ?_; rintro e w' ⟨rfl, rfl⟩) | (go_at_call 64; refine (who_any _ _).mono ?_; rintro e w' ⟨rfl, rfl⟩) | (go_at_call 63; refine (qty_any _ _).mono ?_; rintro e w' ⟨rfl, rfl⟩) | (go_at_call 51; refine (valid_any _ _).mono ?_; rintro e w' ⟨rfl, rfl⟩))
      go_region
      go_wp2_with (first | (go_at_call 62; refine (id_any _ _).mono ?_; rintro e w' ⟨rfl, rfl⟩) | (go_at_call 64; refine (who_any _ _).mono ?_; rintro e w' ⟨rfl, rfl⟩) | (go_at_call 63; refine (qty_any _ _).mono ?_; rintro e w' ⟨rfl, rfl⟩) | (go_at_call 51; refine (valid_any _ _).mono ?_; rintro e w' ⟨rfl, rfl⟩))
      go_ret
      refine ⟨rfl, ?_⟩
      (repeat (first | exact Below.refl _ _ | assumption | (refine below_then (by assumption) ?_) | (refine below_then_alloc ?_) | (refine Below.drew ?_)))
    · rw [show (Cmd.mk 3 ⟨id, ow, side, kind, price, qty, show_, stop⟩ who n).err = 3 by simp [Cmd.err, h, h1, h2, h3]]
      dsimp only [Cmd.val, Cmd.cells]
      go_enter Tryz.func33, Tryz.ntmps33
      go_wp2_with (first | (go_at_call 62; refine (id_any _ _).mono ?_; rintro e w' ⟨rfl, rfl⟩) | (go_at_call 64; refine (who_any _ _).mono ?_; rintro e w' ⟨rfl, rfl⟩) | (go_at_call 63; refine (qty_any _ _).mono ?_; rintro e w' ⟨rfl, rfl⟩) | (go_at_call 51; refine (valid_any _ _).mono ?_; rintro e w' ⟨rfl, rfl⟩))
      go_region
      go_wp2_with (first | (go_at_call 62; refine (id_any _ _).mono ?_; rintro e w' ⟨rfl, rfl⟩) | (go_at_call 64; refine (who_any _ _).mono ?_; rintro e w' ⟨rfl, rfl⟩) | (go_at_call 63; refine (qty_any _ _).mono ?_; rintro e w' ⟨rfl, rfl⟩) | (go_at_call 51; refine (valid_any _ _).mono ?_; rintro e w' ⟨rfl, rfl⟩))
      all_goals first | (exfalso; omega) | (go_ret; refine ⟨rfl, ?_⟩; (repeat (first | exact Below.refl _ _ | assumption | (refine below_then (by assumption) ?_) | (refine below_then_alloc ?_) | (refine Below.drew ?_))))
set_option maxHeartbeats 2000000 in
/-- Check, Pay and Give -/
theorem wcheck_pay (k : Int) (hk : k = 4 ∨ k = 5) (o : Order) (who n : Int) (w : World) :
    Calls Tryz.prog 33 #[(Cmd.mk k o who n).val] w fun e w' => WChk w (Cmd.mk k o who n).err e w' := by
  obtain ⟨id, ow, side, kind, price, qty, show_, stop⟩ := o
  have hc : inb who 1 9 = false ∨ (inb who 1 9 = true ∧ n < 1) ∨ (inb who 1 9 = true ∧ 1 ≤ n ∧ 1000000000 < n) ∨ (inb who 1 9 = true ∧ 1 ≤ n ∧ n ≤ 1000000000 ∧ (id = 0 ∧ ow = 0 ∧ side = 0 ∧ kind = 0 ∧ price = 0 ∧ qty = 0 ∧ show_ = 0 ∧ stop = 0)) ∨ (inb who 1 9 = true ∧ 1 ≤ n ∧ n ≤ 1000000000 ∧ ¬ (id = 0 ∧ ow = 0 ∧ side = 0 ∧ kind = 0 ∧ price = 0 ∧ qty = 0 ∧ show_ = 0 ∧ stop = 0)) := by
    cases inb who 1 9
    · simp
    · simp only [true_and]; omega
  rcases hk with rfl | rfl <;> rcases hc with h | ⟨h, h1⟩ | ⟨h, h1, h2⟩ | ⟨h, h1, h2, rfl, rfl, rfl, rfl, rfl, rfl, rfl, rfl⟩ | ⟨h, h1, h2, h3⟩
  case inl.inr.inr.inr.inl | inr.inr.inr.inr.inl =>
    rw [show (Cmd.mk _ ⟨0, 0, 0, 0, 0, 0, 0, 0⟩ who n).err = 0 by (have h4 : ¬ n < 1 := by omega); (have h5 : ¬ 1000000000 < n := by omega); simp [Cmd.err, h, h4, h5]]
    dsimp only [Cmd.val, Cmd.cells]
    go_enter Tryz.func33, Tryz.ntmps33
    go_wp2_with (first | (go_at_call 62; refine (id_any _ _).mono ?_; rintro e w' ⟨rfl, rfl⟩) | (go_at_call 64; refine (who_any _ _).mono ?_; rintro e w' ⟨rfl, rfl⟩) | (go_at_call 63; refine (qty_any _ _).mono ?_; rintro e w' ⟨rfl, rfl⟩))
    go_ret
    refine ⟨rfl, ?_⟩
    (repeat (first | exact Below.refl _ _ | assumption | (refine below_then (by assumption) ?_) | (refine below_then_alloc ?_) | (refine Below.drew ?_)))
  case inl.inr.inr.inr.inr | inr.inr.inr.inr.inr =>
    rw [show (Cmd.mk _ ⟨id, ow, side, kind, price, qty, show_, stop⟩ who n).err = 3 by (have h4 : ¬ n < 1 := by omega); (have h5 : ¬ 1000000000 < n := by omega); simp [Cmd.err, h, h4, h5, h3]]
    dsimp only [Cmd.val, Cmd.cells]
    go_enter Tryz.func33, Tryz.ntmps33
    go_wp2_with (first | (go_at_call 62; refine (id_any _ _).mono ?_; rintro e w' ⟨rfl, rfl⟩) | (go_at_call 64; refine (who_any _ _).mono ?_; rintro e w' ⟨rfl, rfl⟩) | (go_at_call 63; refine (qty_any _ _).mono ?_; rintro e w' ⟨rfl, rfl⟩))
    all_goals first | (exfalso; omega) | (go_ret; refine ⟨rfl, ?_⟩; (repeat (first | exact Below.refl _ _ | assumption | (refine below_then (by assumption) ?_) | (refine below_then_alloc ?_) | (refine Below.drew ?_))))
  all_goals
    rw [show (Cmd.mk _ ⟨id, ow, side, kind, price, qty, show_, stop⟩ who n).err = 1 by simp [Cmd.err, *]]
    dsimp only [Cmd.val, Cmd.cells]
    go_enter Tryz.func33, Tryz.ntmps33
    go_wp2_with (first | (go_at_call 62; refine (id_any _ _).mono ?_; rintro e w' ⟨rfl, rfl⟩) | (go_at_call 64; refine (who_any _ _).mono ?_; rintro e w' ⟨rfl, rfl⟩) | (go_at_call 63; refine (qty_any _ _).mono ?_; rintro e w' ⟨rfl, rfl⟩))
    go_ret
    refine ⟨rfl, ?_⟩
    (repeat (first | exact Below.refl _ _ | assumption | (refine below_then (by assumption) ?_) | (refine below_then_alloc ?_) | (refine Below.drew ?_)))
/-- Check, nothing that is a command -/
theorem wcheck_none (k : Int) (hk : k < 1 ∨ 5 < k) (o : Order) (who n : Int) (w : World) :
    Calls Tryz.prog 33 #[(Cmd.mk k o who n).val] w fun e w' => WChk w (Cmd.mk k o who n).err e w' := by
  obtain ⟨id, ow, side, kind, price, qty, show_, stop⟩ := o
  have e1 : (k == 1) = false := by simp; omega
  have e2 : (k == 2) = false := by simp; omega
  have e3 : (k == 3) = false := by simp; omega
  have e4 : (k == 4) = false := by simp; omega
  have e5 : (k == 5) = false := by simp; omega
  rw [show (Cmd.mk k ⟨id, ow, side, kind, price, qty, show_, stop⟩ who n).err = 1 by simp_all [Cmd.err]]
  dsimp only [Cmd.val, Cmd.cells]
  go_enter Tryz.func33, Tryz.ntmps33
  go_wp2
  go_ret
  refine ⟨rfl, ?_⟩
  (repeat (first | exact Below.refl _ _ | assumption | (refine below_then (by assumption) ?_) | (refine below_then_alloc ?_) | (refine Below.drew ?_)))
theorem wcheck_any (c : Cmd) (w : World) :
    Calls Tryz.prog 33 #[.agg #[.int .i64 c.what, .int .i64 c.o.id, .int .i64 c.o.who, .int .i64 c.o.side, .int .i64 c.o.kind, .int .i64 c.o.price, .int .i64 c.o.qty, .int .i64 c.o.show_, .int .i64 c.o.stop, .int .i64 c.who, .int .i64 c.n]] w fun e w' => e = .returned (errV c.err) ∧ Below w.heap.size w w' := by
  obtain ⟨k, o, who, n⟩ := c
  have hk : k = 1 ∨ k = 2 ∨ k = 3 ∨ (k = 4 ∨ k = 5) ∨ (k < 1 ∨ 5 < k) := by omega
  rcases hk with rfl | rfl | rfl | h | h
  · exact wcheck_place o who n w
  · exact wcheck_cancel o who n w
  · exact wcheck_swap o who n w
  · exact wcheck_pay k h o who n w
  · exact wcheck_none k h o who n w
end Go.Proofs.YtkdgpdijbobmkaaGreat
