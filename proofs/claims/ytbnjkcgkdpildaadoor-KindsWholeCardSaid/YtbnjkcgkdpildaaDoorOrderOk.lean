/- An order that is right. -/
import Derived.Test.YtbnjkcgkdpildaaDoorOrder
namespace Go.Proofs.YtbnjkcgkdpildaaDoor
set_option linter.all false
open Go.RowKit
/-- an order that is right: what its numbers are -/
theorem Order.err_ok {o : Order} (h : o.err = 0) : (1 ≤ o.id ∧ o.id ≤ 9999) ∧ (1 ≤ o.who ∧ o.who ≤ 9) ∧ (o.side = 1 ∨ o.side = 2) ∧ (1 ≤ o.kind ∧ o.kind ≤ 5) ∧ (o.kind = 2 ∧ o.price = 0 ∨ o.kind ≠ 2 ∧ 1 ≤ o.price ∧ o.price ≤ 10000) ∧ (1 ≤ o.qty ∧ o.qty ≤ 10000) ∧ (0 ≤ o.show_ ∧ o.show_ ≤ o.qty) ∧ (o.show_ = 0 ∨ o.kind = 1 ∨ o.kind = 5) ∧ (o.stop = 0 ∨ 1 ≤ o.stop ∧ o.stop ≤ 10000) := by
  unfold Order.err at h
  split at h
  · omega
  split at h
  · omega
  split at h
  · omega
  split at h
  · omega
  split at h
  · omega
  simp_all [inb, vs, vp]
  omega
end Go.Proofs.YtbnjkcgkdpildaaDoor
