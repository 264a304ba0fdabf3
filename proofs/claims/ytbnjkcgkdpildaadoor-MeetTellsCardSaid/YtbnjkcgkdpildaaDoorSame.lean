/- plain.Told and pitsame.Error: the number of an error. -/
import Derived.Test.YtbnjkcgkdpildaaDoorAs
namespace Go.Proofs.YtbnjkcgkdpildaaDoor
set_option linter.all false
open Go.RowKit
theorem told_nil (w : World) : Calls Tryd.prog 25 #[.nilIface] w fun e w' => e = .returned (.int .i64 0) ∧ w = w' := by
  go_enter Tryd.func25, Tryd.ntmps25
  go_wp2
  go_ret
  exact ⟨rfl, rfl⟩
set_option maxHeartbeats 1000000 in
theorem told_er (k : Int) (w : World) (hg : Laid w) : Calls Tryd.prog 25 #[.iface 69 (.int .i64 k)] w fun e w' => e = .returned (.int .i64 k) ∧ Below w.heap.size w w' := by
  have c1 := as_hit k ⟨w.heap.size, 0, none⟩ (.int .i64 0) (w.alloc (.cells #[.int .i64 0] 69)) (cell_alloc hg _) (cell_of_row _ _ 0 _ _ (0, 0) (heap_alloc_new w _)) (by simp)
  go_enter Tryd.func25, Tryd.ntmps25
  go_wp2_with (go_at_call 55; refine c1.mono ?_; rintro e w1 ⟨rfl, w2, hb, rfl⟩; have hc : (w2.setCell ⟨w.heap.size, 0, none⟩ (.int .i64 k)).cell? ⟨w.heap.size, 0, none⟩ = some (.int .i64 k) := World.cell?_setCell_same' _ _ _ (by rw [hb.cell (p := ⟨w.heap.size, 0, none⟩) (by simp), cell_of_row _ _ 0 _ _ (0, 0) (heap_alloc_new w _)]; rfl))
  go_ret
  exact ⟨rfl, (((Below.refl _ _).alloc (Nat.le_refl _) _).trans (hb.mono (by simp))).setCell (Nat.le_refl _) _⟩
theorem same_nil (n : Int) (w : World) : Calls Tryd.prog 8 #[.nilIface, .int .i64 n] w fun e w' => e = .returned (.bool (0 == n)) ∧ w = w' := by
  go_enter Tryd.func8, Tryd.ntmps8
  go_wp2_with (go_at_call 25; refine (told_nil _).mono ?_; rintro e w1 ⟨rfl, rfl⟩)
  go_ret
  exact ⟨rfl, rfl⟩
theorem same_er (k n : Int) (w : World) (hg : Laid w) : Calls Tryd.prog 8 #[.iface 69 (.int .i64 k), .int .i64 n] w fun e w' => e = .returned (.bool (k == n)) ∧ Below w.heap.size w w' := by
  go_enter Tryd.func8, Tryd.ntmps8
  go_wp2_with (go_at_call 25; refine (told_er k _ hg).mono ?_; rintro e w1 ⟨rfl, hb⟩)
  go_ret
  exact ⟨rfl, hb⟩
end Go.Proofs.YtbnjkcgkdpildaaDoor
