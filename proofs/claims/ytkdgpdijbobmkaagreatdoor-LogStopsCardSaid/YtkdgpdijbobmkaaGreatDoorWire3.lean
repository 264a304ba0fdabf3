/- The contracts of package wire: Command. -/
import Derived.Test.YtkdgpdijbobmkaaGreatDoorWire2
namespace Go.Proofs.YtkdgpdijbobmkaaGreatDoor
set_option linter.all false
open Go.RowKit
theorem wcommand_bad (c : Cmd) (he : c.err ≠ 0) (w : World) :
    Calls Tryz.prog 102 #[.agg #[.int .i64 c.what, .int .i64 c.o.id, .int .i64 c.o.who, .int .i64 c.o.side, .int .i64 c.o.kind, .int .i64 c.o.price, .int .i64 c.o.qty, .int .i64 c.o.show_, .int .i64 c.o.stop, .int .i64 c.who, .int .i64 c.n]] w fun e w' => e = .returned (.tuple #[.string ⟨#[]⟩, er c.err]) ∧ Below w.heap.size w w' := by
  have cC := fun w => (wcheck_any c w).mono (R' := fun e w' => e = .returned (er c.err) ∧ Below w.heap.size w w') fun e w' ⟨h1, h2⟩ => ⟨by rw [h1, errV, if_neg he], h2⟩
  obtain ⟨k, ⟨id, ow, side, kind, price, qty, show_, stop⟩, who, n⟩ := c
  generalize Cmd.err _ = r at *
  dsimp only at cC ⊢
  go_enter Tryz.func102, Tryz.ntmps102
  go_wp2_with (go_at_call 71; (with_reducible refine (cC _).mono ?_); rintro e w1 ⟨rfl, hb1⟩)
  go_ret2
  refine ⟨rfl, ?_⟩
  (repeat (first | exact Below.refl _ _ | assumption | (refine below_then (by assumption) ?_) | (refine below_then_alloc ?_) | (refine Below.drew ?_)))
end Go.Proofs.YtkdgpdijbobmkaaGreatDoor
