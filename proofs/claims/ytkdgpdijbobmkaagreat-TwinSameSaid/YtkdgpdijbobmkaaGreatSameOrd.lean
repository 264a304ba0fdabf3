/- The contract of pitsame.Orders, of two that are the same. -/
import Derived.Test.YtkdgpdijbobmkaaGreatGrpW
import Derived.Deep.QuietTactic
import Derived.BigQuiet
namespace Go.Proofs.YtkdgpdijbobmkaaGreat
set_option linter.all false
open Go Go.RowKit
set_option maxHeartbeats 2000000 in
theorem same_ords (l : List Order) (A B : Option Addr) (c d : Nat) (w : World) (hr : Rd w w.heap.size A l.length 8 (ocell l)) (hs : Rd w w.heap.size B l.length 8 (ocell l)) (hl : l.length ≤ 100000) :
    Calls Tryz.prog 66 #[.slice A l.length c, .slice B l.length d] w fun e w' => e = .returned (.bool true) ∧ Below w.heap.size w w' := by
  have HR := Lib.hid hr
  have HS := Lib.hid hs
  clear hr hs
  go_enter Tryz.func66, Tryz.ntmps66
  go_wp2
  go_loopw [5] (fun i wr => ∃ k : Nat, k ≤ l.length ∧ i = .int .i64 k ∧ Below w.heap.size w wr) (fun i _ => l.length - (intOf i).toNat)
  case atStart => exact ⟨0, by omega, rfl, Below.refl _ _⟩
  case round =>
    obtain ⟨k, hk, rfl, hb⟩ := hrel
    by_cases hlt : k < l.length
    · obtain ⟨b, off, t, rfl, hbl, ht, e0, e1, e2, e3, e4, e5, e6, e7⟩ := ord_at (HR.out.below hb) hlt
      obtain ⟨b', off', u, rfl, hbl', hu, g0, g1, g2, g3, g4, g5, g6, g7⟩ := ord_at (HS.out.below hb) hlt
      obtain rfl : t = u := Option.some.inj (ht.symm.trans hu)
      have j0 : (0 : Int) ≤ (k : Int) := by omega
      have j1 : (k : Int) < (l.length : Int) := by omega
      clear ht hu
      go_wp2
      go_quiet (fail)
      go_wp2
      go_roundw
      case rel => exact ⟨k + 1, by omega, by go_num, below_drewN hb _⟩
      case measure => simp [intOf]; omega
    · obtain rfl : k = l.length := by omega
      go_wp2
      go_ret
      exact ⟨rfl, hb⟩
end Go.Proofs.YtkdgpdijbobmkaaGreat
