/- The contracts of the reference's In, Queue, Total, Without. -/
import Derived.Test.YtbnjkcgkdpildaaGrpB
import Derived.Test.YtbnjkcgkdpildaaGrpD
import Derived.Test.YtbnjkcgkdpildaaGrpH
import Derived.IntWalk
namespace Go.Proofs.Ytbnjkcgkdpildaa
set_option linter.all false
open Go Go.RowKit
theorem rretQ {l : List Rest} {k : Int} (h : qErr l = k) : Ending.returned (.int .i64 k) = .returned (.int .i64 (qErr l)) := by rw [h]
set_option maxHeartbeats 1000000 in
theorem rtotal_any (l : List Rest) (A : Option Addr) (c : Nat) (w : World) (hr : Rd w w.heap.size A l.length 5 (rcell l)) (hl : l.length ≤ 1000) (he : ∀ r ∈ l, r.err = 0) :
    Calls Try.prog 58 #[.slice A l.length c] w fun e w' => e = .returned (.int .i64 (allQ l)) ∧ Below w.heap.size w w' := by
  have HR := Lib.hid hr
  have HE := Lib.hid he
  clear hr he
  go_enter Try.func58, Try.ntmps58
  go_wp2
  go_loopw [3, 4] (fun n i wr => ∃ k : Nat, k ≤ l.length ∧ i = .int .i64 k ∧ n = .int .i64 (allQ (l.take k)) ∧ Below w.heap.size w wr) (fun _ i _ => l.length - (intOf i).toNat)
  case atStart => exact ⟨0, by omega, rfl, rfl, Below.refl _ _⟩
  case round =>
    obtain ⟨k, hk, rfl, rfl, hb⟩ := hrel
    by_cases hlt : k < l.length
    · obtain ⟨b, off, t, rfl, hbl, ht, e0, e1, e2, e3, e4⟩ := rest_at (HR.out.below hb) hlt
      have hb1 := allQ_bounds (l := l.take k) (fun r hr => HE.out r (List.mem_of_mem_take hr))
      rw [List.length_take] at hb1
      obtain ⟨b1, b2⟩ := hb1
      have b3 : (min k l.length : Nat) ≤ 1000 := by omega
      have b4 : allQ (l.take k) ≤ 20000000 := by omega
      have hh := err0 (HE.out t (List.mem_of_getElem? ht))
      obtain ⟨h1, h2, h3, h4, _⟩ := hh
      have HA := Lib.hid (allQ_take ht)
      have i0 : (0 : Int) ≤ (k : Int) := by omega
      have i1 : (k : Int) < (l.length : Int) := by omega
      clear ht b2
      generalize allQ (l.take k) = s at *
      have x1 : IntKind.i64.wrap (s + t.qty) = s + t.qty := IntWalk.i64_in _ (by omega)
      have x2 : IntKind.i64.wrap (s + t.qty + t.hidden) = s + t.qty + t.hidden := IntWalk.i64_in _ (by omega)
      have X1 := Lib.hid x1; have X2 := Lib.hid x2; clear x1 x2
      go_wp2
      have x1 := X1.out; have x2 := X2.out
      go_quiet (fail)
      clear x1 x2
      go_wp2
      go_roundw
      case rel => exact ⟨k + 1, by omega, by go_num, by rw [HA.out, ← Int.add_assoc], below_drewN hb _⟩
      case measure => simp [intOf]; omega
    · obtain rfl : k = l.length := by omega
      go_wp2
      go_ret
      exact ⟨by rw [List.take_length]; rfl, hb⟩
end Go.Proofs.Ytbnjkcgkdpildaa
