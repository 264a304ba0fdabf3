/- The contracts of package margin. -/
import Derived.Test.YtbnjkcgkdpildaaGrpA
import Derived.Deep.RegionHeld3
namespace Go.Proofs.Ytbnjkcgkdpildaa
set_option linter.all false
open Go.RowKit
def mcash (s p q : Int) : Int := if s = 1 then p * q else 0
def mstock (s q : Int) : Int := if s = 1 then 0 else q
theorem mof_any (s p q : Int) (w : World) (h1 : 0 ≤ p) (h2 : p ≤ 10000) (h3 : 0 ≤ q) (h4 : q ≤ 20000) :
    Calls Try.prog 66 #[.int .i64 s, .int .i64 p, .int .i64 q] w fun e w' => e = .returned (.tuple #[.int .i64 (mcash s p q), .int .i64 (mstock s q)]) ∧ w = w' := by
  have hb : p * q ≤ 200000000 := by
    have := Int.mul_le_mul h2 h4 h3 (by omega); omega
  have hb0 : 0 ≤ p * q := Int.mul_nonneg h1 h3
  by_cases h : s = 1
  · subst h
    go_enter Try.func66, Try.ntmps66
    go_wp2
    go_ret2
    exact ⟨rfl, rfl⟩
  · have e : (s == 1) = false := by simpa using h
    have g1 : mcash s p q = 0 := by simp [mcash, h]
    have g2 : mstock s q = q := by simp [mstock, h]
    rw [g1, g2]
    clear g1 g2 h
    go_enter Try.func66, Try.ntmps66
    go_wp2
    go_ret2
    exact ⟨rfl, rfl⟩
/-- the worst price of an order -/
def Order.lim (o : Order) : Int := if o.kind = 2 then 10000 else o.price
theorem limit_any (o : Order) (w : World) :
    Calls Try.prog 67 #[.agg #[.int .i64 o.id, .int .i64 o.who, .int .i64 o.side, .int .i64 o.kind, .int .i64 o.price, .int .i64 o.qty, .int .i64 o.show_, .int .i64 o.stop]] w fun e w' => e = .returned (.int .i64 o.lim) ∧ w' = w.alloc (.cells #[.int .i64 o.id, .int .i64 o.who, .int .i64 o.side, .int .i64 o.kind, .int .i64 o.price, .int .i64 o.qty, .int .i64 o.show_, .int .i64 o.stop] 36) := by
  obtain ⟨id, who, side, kind, price, qty, show_, stop⟩ := o
  go_enter Try.func67, Try.ntmps67
  go_wp2
  all_goals
    go_ret
    constructor
    · refine congrArg Ending.returned ?_
      simp_all [Order.lim]
    · simp_all
theorem for_ok (o : Order) (h : o.err = 0) (w : World) :
    Calls Try.prog 33 #[.agg #[.int .i64 o.id, .int .i64 o.who, .int .i64 o.side, .int .i64 o.kind, .int .i64 o.price, .int .i64 o.qty, .int .i64 o.show_, .int .i64 o.stop]] w fun e w' => e = .returned (.tuple #[.int .i64 (mcash o.side o.lim o.qty), .int .i64 (mstock o.side o.qty), .nilIface]) ∧ Below w.heap.size w w' := by
  rcases check_ex o with ⟨_, cC⟩ | ⟨h2, _⟩
  case inr => exact absurd h h2
  have hh := Order.err_ok h
  have cL := limit_any o
  have hl : 0 ≤ o.lim ∧ o.lim ≤ 10000 := by unfold Order.lim; split <;> omega
  have cO := fun w => mof_any o.side o.lim o.qty w hl.1 hl.2 (by omega) (by omega)
  clear h hh hl
  obtain ⟨id, who, side, kind, price, qty, show_, stop⟩ := o
  generalize Order.lim ⟨id, who, side, kind, price, qty, show_, stop⟩ = l at *
  go_enter Try.func33, Try.ntmps33
  go_wp2_with (first | (go_at_call 50; ((with_reducible refine (cC _).mono ?_); rintro e w' ⟨rfl, rfl⟩)))
  obtain ⟨W1, hW1⟩ : ∃ W1, W1 = (w.alloc (.cells #[.int .i64 id, .int .i64 who, .int .i64 side, .int .i64 kind, .int .i64 price, .int .i64 qty, .int .i64 show_, .int .i64 stop] 36)).alloc (.cells #[.int .i64 id, .int .i64 who, .int .i64 side, .int .i64 kind, .int .i64 price, .int .i64 qty, .int .i64 show_, .int .i64 stop] 36) := ⟨_, rfl⟩
  rw [← hW1]
  obtain ⟨b1, b2, b3⟩ : w.heap.size < W1.heap.size ∧ (∀ i, W1.cell? ⟨w.heap.size, i, none⟩ = (#[.int .i64 id, .int .i64 who, .int .i64 side, .int .i64 kind, .int .i64 price, .int .i64 qty, .int .i64 show_, .int .i64 stop] : Array Value)[i]?) ∧ Below w.heap.size w W1 := by
    rw [hW1]; exact held_new ((Below.refl _ _).alloc (by simp) _)
  have e0 := b2 0; have e1 := b2 1; have e2 := b2 2; have e3 := b2 3; have e4 := b2 4; have e5 := b2 5; have e6 := b2 6; have e7 := b2 7
  clear hW1 b2
  go_region_held3 (fun w' => w'.cell? ⟨w.heap.size, 0, none⟩ = some (.int .i64 id) ∧ w'.cell? ⟨w.heap.size, 1, none⟩ = some (.int .i64 who) ∧ w'.cell? ⟨w.heap.size, 2, none⟩ = some (.int .i64 side) ∧ w'.cell? ⟨w.heap.size, 3, none⟩ = some (.int .i64 kind) ∧ w'.cell? ⟨w.heap.size, 4, none⟩ = some (.int .i64 price) ∧ w'.cell? ⟨w.heap.size, 5, none⟩ = some (.int .i64 qty) ∧ w'.cell? ⟨w.heap.size, 6, none⟩ = some (.int .i64 show_) ∧ w'.cell? ⟨w.heap.size, 7, none⟩ = some (.int .i64 stop) ∧ Below w.heap.size w w')
    ((repeat' apply And.intro) <;> first | assumption | (exact cell_alloc_drew (by assumption) _) | (exact cell_alloc (by assumption) _) | (exact cell_drew (by assumption)) | (exact below_alloc_drew (by assumption) (Nat.le_refl _) _) | (exact below_alloc (by assumption) (Nat.le_refl _) _) | (exact Below.drew (by assumption)))
    (first | (go_at_call 67; ((with_reducible refine (cL _).mono ?_); rintro e w' ⟨rfl, rfl⟩)) | (go_at_call 66; ((with_reducible refine (cO _).mono ?_); rintro e w' ⟨rfl, rfl⟩)))
  go_wp2
  go_ret3
  refine ⟨rfl, ?_⟩
  ((repeat' apply And.intro) <;> first | assumption | (exact cell_alloc_drew (by assumption) _) | (exact cell_alloc (by assumption) _) | (exact cell_drew (by assumption)) | (exact below_alloc_drew (by assumption) (Nat.le_refl _) _) | (exact below_alloc (by assumption) (Nat.le_refl _) _) | (exact Below.drew (by assumption)))
end Go.Proofs.Ytbnjkcgkdpildaa
