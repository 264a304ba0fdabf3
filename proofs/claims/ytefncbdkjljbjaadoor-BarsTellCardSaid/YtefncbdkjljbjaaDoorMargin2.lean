/- Contracts: margin.For, margin.Left, and the reference's For and LeftFor. -/
import Derived.Test.YtefncbdkjljbjaaDoorMargin
import Derived.Test.YtefncbdkjljbjaaDoorRef2
import Derived.Test.YtefncbdkjljbjaaDoorQueue
namespace Go.Proofs.YtefncbdkjljbjaaDoor
set_option linter.all false
open Go.RowKit
theorem for_ex (o : Order) :
    (o.err = 0 ∧ ∀ w, Calls Tryd.prog 32 #[.agg #[.int .i64 o.id, .int .i64 o.who, .int .i64 o.side, .int .i64 o.kind, .int .i64 o.price, .int .i64 o.qty, .int .i64 o.show_, .int .i64 o.stop]] w fun e w' => e = .returned (.tuple #[.int .i64 (mcash o.side o.lim o.qty), .int .i64 (mstock o.side o.qty), .nilIface]) ∧ Below w.heap.size w w') ∨
    (o.err ≠ 0 ∧ ∀ w, Calls Tryd.prog 32 #[.agg #[.int .i64 o.id, .int .i64 o.who, .int .i64 o.side, .int .i64 o.kind, .int .i64 o.price, .int .i64 o.qty, .int .i64 o.show_, .int .i64 o.stop]] w fun e w' => e = .returned (.tuple #[.int .i64 0, .int .i64 0, er o.err]) ∧ Below w.heap.size w w') := by
  by_cases h : o.err = 0
  · exact .inl ⟨h, fun w => for_ok o h w⟩
  · refine .inr ⟨h, fun w => ?_⟩
    rcases check_ex o with ⟨h2, _⟩ | ⟨_, cC⟩
    · exact absurd h2 h
    clear h
    obtain ⟨id, who, side, kind, price, qty, show_, stop⟩ := o
    generalize Order.err ⟨id, who, side, kind, price, qty, show_, stop⟩ = E at *
    go_enter Tryd.func32, Tryd.ntmps32
    go_wp2_with (first | (go_at_call 72; ((with_reducible refine (cC _).mono ?_); rintro e w' ⟨rfl, rfl⟩)))
    go_ret3
    refine ⟨rfl, ?_⟩
    exact ((Below.refl _ _).alloc (Nat.le_refl _) _).alloc (by simp) _
theorem sfor_any (o : Order) (w : World) (h : o.err = 0) :
    Calls Tryd.prog 31 #[.agg #[.int .i64 o.id, .int .i64 o.who, .int .i64 o.side, .int .i64 o.kind, .int .i64 o.price, .int .i64 o.qty, .int .i64 o.show_, .int .i64 o.stop]] w fun e w' => e = .returned (.tuple #[.int .i64 (mcash o.side o.lim o.qty), .int .i64 (mstock o.side o.qty)]) ∧ Below w.heap.size w w' := by
  obtain ⟨_, _, hs, _, hp, hq, _⟩ := Order.err_ok h
  have hl : 0 ≤ o.lim ∧ o.lim ≤ 10000 := by unfold Order.lim; split <;> omega
  have hb : o.lim * o.qty ≤ 100000000 := by
    have := Int.mul_le_mul hl.2 hq.2 (by omega) (by omega); omega
  have hb0 : 0 ≤ o.lim * o.qty := Int.mul_nonneg hl.1 (by omega)
  have H1 := Lib.hid (show mcash o.side o.lim o.qty = if o.side = 1 then o.lim * o.qty else 0 from rfl)
  have H2 := Lib.hid (show mstock o.side o.qty = if o.side = 1 then 0 else o.qty from rfl)
  have H3 := Lib.hid (show o.lim = if o.kind = 2 then 10000 else o.price from rfl)
  clear h
  obtain ⟨id, who, side, kind, price, qty, show_, stop⟩ := o
  generalize mcash side _ qty = C at *
  generalize mstock side qty = T at *
  generalize Order.lim ⟨id, who, side, kind, price, qty, show_, stop⟩ = l at *
  dsimp only at *
  rcases hs with rfl | rfl
  · obtain rfl : T = 0 := by rw [H2.out]; rfl
    obtain rfl : C = l * qty := by rw [H1.out]; rfl
    clear H1 H2
    by_cases hk : kind = 2
    · subst hk
      obtain rfl : l = 10000 := by rw [H3.out]; rfl
      clear H3
      go_enter Tryd.func31, Tryd.ntmps31
      go_wp2
      go_ret2
      exact ⟨rfl, by (repeat (first | exact Below.refl _ _ | assumption | (refine below_then (by assumption) ?_) | (refine below_then_alloc ?_) | (refine Below.drew ?_)))⟩
    · obtain rfl : l = price := by rw [H3.out, if_neg hk]
      clear H3
      have hk2 : (kind == 2) = false := by simpa using hk
      clear hk
      go_enter Tryd.func31, Tryd.ntmps31
      go_wp2
      go_ret2
      exact ⟨rfl, by (repeat (first | exact Below.refl _ _ | assumption | (refine below_then (by assumption) ?_) | (refine below_then_alloc ?_) | (refine Below.drew ?_)))⟩
  · obtain rfl : T = qty := by rw [H2.out]; rfl
    obtain rfl : C = 0 := by rw [H1.out]; rfl
    clear H1 H2 H3
    go_enter Tryd.func31, Tryd.ntmps31
    go_wp2
    go_quiet (fail)
    go_wp2
    go_ret2
    exact ⟨rfl, by refine below_drewN ?_ _; (repeat (first | exact Below.refl _ _ | assumption | (refine below_then (by assumption) ?_) | (refine below_then_alloc ?_) | (refine Below.drew ?_)))⟩
theorem sleft_any (r : Rest) (s p : Int) (w : World) (hs : vs s = true) (hp : vp p = true) (hr : r.err = 0) :
    Calls Tryd.prog 38 #[.agg #[.int .i64 r.id, .int .i64 r.who, .int .i64 r.qty, .int .i64 r.hidden, .int .i64 r.show_], .int .i64 s, .int .i64 p] w fun e w' => e = .returned (.tuple #[.int .i64 (mcash s p (r.qty + r.hidden)), .int .i64 (mstock s (r.qty + r.hidden))]) ∧ Below w.heap.size w w' := by
  rw [Rest.err_eq2] at hr
  have h1 : 1 ≤ r.qty ∧ r.qty ≤ 10000 ∧ 0 ≤ r.hidden ∧ r.hidden ≤ 10000 := by
    split at hr
    · omega
    split at hr
    · omega
    omega
  have hs2 := vs_t hs
  have hp2 := vp_t hp
  obtain ⟨p1, p2⟩ := hp2
  obtain ⟨a1, a2, a3, a4⟩ := h1
  clear hr hs hp
  obtain ⟨id, who, qty, hidden, show_⟩ := r
  dsimp only at *
  have hb : p * (qty + hidden) ≤ 10000 * 20000 := Int.mul_le_mul p2 (by omega) (by omega) (by omega)
  have hb0 : 0 ≤ p * (qty + hidden) := Int.mul_nonneg (by omega) (by omega)
  have hm : (qty + hidden) * p = p * (qty + hidden) := Int.mul_comm _ _
  rw [← hm] at hb hb0
  rcases (show s = 1 ∨ s = 2 by omega) with rfl | rfl
  · rw [show mcash 1 p (qty + hidden) = (qty + hidden) * p from hm.symm, show mstock 1 (qty + hidden) = 0 from rfl]
    clear hm
    go_enter Tryd.func38, Tryd.ntmps38
    go_wp2
    go_ret2
    exact ⟨rfl, by (repeat (first | exact Below.refl _ _ | assumption | (refine below_then (by assumption) ?_) | (refine below_then_alloc ?_) | (refine Below.drew ?_)))⟩
  · rw [show mcash 2 p (qty + hidden) = 0 from rfl, show mstock 2 (qty + hidden) = qty + hidden from rfl]
    clear hm hb hb0
    go_enter Tryd.func38, Tryd.ntmps38
    go_wp2
    go_ret2
    exact ⟨rfl, by (repeat (first | exact Below.refl _ _ | assumption | (refine below_then (by assumption) ?_) | (refine below_then_alloc ?_) | (refine Below.drew ?_)))⟩
/-- what is wrong with a rest at a price of a side -/
def leftE (r : Rest) (s p : Int) : Int := if r.err ≠ 0 then r.err else if vs s && vp p then 0 else 1
theorem left_ok (r : Rest) (s p : Int) (w : World) (h : leftE r s p = 0) :
    Calls Tryd.prog 39 #[.agg #[.int .i64 r.id, .int .i64 r.who, .int .i64 r.qty, .int .i64 r.hidden, .int .i64 r.show_], .int .i64 s, .int .i64 p] w fun e w' => e = .returned (.tuple #[.int .i64 (mcash s p (r.qty + r.hidden)), .int .i64 (mstock s (r.qty + r.hidden)), .nilIface]) ∧ Below w.heap.size w w' := by
  have hr : r.err = 0 := by
    by_cases h0 : r.err = 0
    · exact h0
    · rw [leftE, if_pos h0] at h; exact h
  rw [leftE, if_neg (by simpa using hr)] at h
  have hsp : vs s = true ∧ vp p = true := by
    cases hs : vs s <;> cases hp : vp p <;> simp [hs, hp] at h ⊢
  obtain ⟨hs, hp⟩ := hsp
  have cO := fun w => one_any r w
  rw [hr, show errV 0 = .nilIface from rfl] at cO
  have CO := Lib.hid cO
  rw [Rest.err_eq2] at hr
  have h1 : 1 ≤ r.qty ∧ r.qty ≤ 10000 ∧ 0 ≤ r.hidden ∧ r.hidden ≤ 10000 := by
    split at hr
    · omega
    split at hr
    · omega
    omega
  have hp2 := vp_t hp
  obtain ⟨a1, a2, a3, a4⟩ := h1
  have cF := fun w => of_any s p (r.qty + r.hidden) w (by omega) (by omega) (by omega) (by omega)
  clear hr h cO hp2
  obtain ⟨id, who, qty, hidden, show_⟩ := r
  dsimp only at *
  go_enter Tryd.func39, Tryd.ntmps39
  go_wp2_with (first | (go_at_call 77; refine (CO.out _).mono ?_; rintro e w' ⟨rfl, rfl⟩) | (go_at_call 78; refine (side_any _ _).mono ?_; rintro e w' ⟨rfl, rfl⟩) | (go_at_call 70; refine (valid_any _ _).mono ?_; rintro e w' ⟨rfl, rfl⟩) | (go_at_call 73; ((with_reducible refine (cF _).mono ?_); rintro e w' ⟨rfl, rfl⟩)))
  go_ret3
  exact ⟨rfl, by (repeat (first | exact Below.refl _ _ | assumption | (refine below_then (by assumption) ?_) | (refine below_then_alloc ?_) | (refine Below.drew ?_)))⟩
theorem left_bad (r : Rest) (s p : Int) (w : World) (h : leftE r s p ≠ 0) :
    Calls Tryd.prog 39 #[.agg #[.int .i64 r.id, .int .i64 r.who, .int .i64 r.qty, .int .i64 r.hidden, .int .i64 r.show_], .int .i64 s, .int .i64 p] w fun e w' => e = .returned (.tuple #[.int .i64 0, .int .i64 0, er (leftE r s p)]) ∧ Below w.heap.size w w' := by
  have cO := fun w => one_any r w
  by_cases hr : r.err = 0
  · rw [hr, show errV 0 = .nilIface from rfl] at cO
    have CO := Lib.hid cO; clear cO
    have hsp : vs s = false ∨ (vs s = true ∧ vp p = false) := by
      rw [leftE, if_neg (by simpa using hr)] at h
      cases hs : vs s <;> cases hp : vp p <;> simp [hs, hp] at h ⊢
    rw [show leftE r s p = 1 by rw [leftE, if_neg (by simpa using hr)]; rcases hsp with hs | ⟨hs, hp⟩ <;> simp [*]]
    clear h hr
    obtain ⟨id, who, qty, hidden, show_⟩ := r
    dsimp only at *
    rcases hsp with hs | ⟨hs, hp⟩
    all_goals
      go_enter Tryd.func39, Tryd.ntmps39
      go_wp2_with (first | (go_at_call 77; refine (CO.out _).mono ?_; rintro e w' ⟨rfl, rfl⟩) | (go_at_call 78; refine (side_any _ _).mono ?_; rintro e w' ⟨rfl, rfl⟩) | (go_at_call 70; refine (valid_any _ _).mono ?_; rintro e w' ⟨rfl, rfl⟩))
      go_ret3
      exact ⟨rfl, by (repeat (first | exact Below.refl _ _ | assumption | (refine below_then (by assumption) ?_) | (refine below_then_alloc ?_) | (refine Below.drew ?_)))⟩
  · rw [show leftE r s p = r.err by rw [leftE, if_pos hr]]
    rw [show errV r.err = er r.err by simp [errV, hr]] at cO
    have CO := Lib.hid cO; clear cO h hr
    generalize r.err = E at *
    obtain ⟨id, who, qty, hidden, show_⟩ := r
    dsimp only at *
    go_enter Tryd.func39, Tryd.ntmps39
    go_wp2_with (first | (go_at_call 77; refine (CO.out _).mono ?_; rintro e w' ⟨rfl, rfl⟩))
    go_ret3
    exact ⟨rfl, by (repeat (first | exact Below.refl _ _ | assumption | (refine below_then (by assumption) ?_) | (refine below_then_alloc ?_) | (refine Below.drew ?_)))⟩
end Go.Proofs.YtefncbdkjljbjaaDoor
