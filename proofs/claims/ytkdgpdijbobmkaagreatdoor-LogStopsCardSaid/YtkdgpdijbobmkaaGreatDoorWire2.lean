/- The contracts of package wire: fields. -/
import Derived.Test.YtkdgpdijbobmkaaGreatDoorWire
namespace Go.Proofs.YtkdgpdijbobmkaaGreatDoor
set_option linter.all false
open Go.RowKit
/-- where the fields lie that stand in the bytes -/
def fieldOffs (k : Int) : List Nat := if k = 1 then [1, 2, 3, 4, 5, 6, 7, 8] else if k = 2 then [1] else [1, 5, 6]
/-- what fields ends with: a new block of the fields' addresses -/
def FieldsPost (g : Nat) (l : List Nat) (w : World) (e : Ending) (w' : World) : Prop :=
  e = .returned (.slice (some ⟨w.heap.size, 0, none⟩) l.length l.length) ∧ Bk w' w.heap.size 226 (l.map fun o => Value.pointer (some ⟨g, o, none⟩)).toArray ∧ Below w.heap.size w w'
theorem fields_place (g : Nat) (w : World) (h : w.cell? ⟨g, 0, none⟩ = some (.int .i64 1)) :
    Calls Tryz.prog 142 #[.pointer (some ⟨g, 0, none⟩)] w (FieldsPost g [1, 2, 3, 4, 5, 6, 7, 8] w) := by
  go_enter Tryz.func142, Tryz.ntmps142
  go_wp2
  go_region
  go_wp2
  go_ret
  refine ⟨rfl, heap_alloc_new w _, ?_⟩
  · (repeat (first | exact Below.refl _ _ | assumption | (refine below_then (by assumption) ?_) | (refine below_then_alloc ?_) | (refine Below.drew ?_)))
theorem fields_cancel (g : Nat) (w : World) (h : w.cell? ⟨g, 0, none⟩ = some (.int .i64 2)) :
    Calls Tryz.prog 142 #[.pointer (some ⟨g, 0, none⟩)] w (FieldsPost g [1] w) := by
  go_enter Tryz.func142, Tryz.ntmps142
  go_wp2
  go_ret
  refine ⟨rfl, heap_alloc_new w _, ?_⟩
  · (repeat (first | exact Below.refl _ _ | assumption | (refine below_then (by assumption) ?_) | (refine below_then_alloc ?_) | (refine Below.drew ?_)))
theorem fields_swap (g : Nat) (w : World) (h : w.cell? ⟨g, 0, none⟩ = some (.int .i64 3)) :
    Calls Tryz.prog 142 #[.pointer (some ⟨g, 0, none⟩)] w (FieldsPost g [1, 5, 6] w) := by
  go_enter Tryz.func142, Tryz.ntmps142
  go_wp2
  go_region
  go_wp2
  go_ret
  refine ⟨rfl, heap_alloc_new w _, ?_⟩
  · (repeat (first | exact Below.refl _ _ | assumption | (refine below_then (by assumption) ?_) | (refine below_then_alloc ?_) | (refine Below.drew ?_)))
theorem fields_any (g : Nat) (k : Int) (hk : k = 1 ∨ k = 2 ∨ k = 3) (w : World) (h : w.cell? ⟨g, 0, none⟩ = some (.int .i64 k)) :
    Calls Tryz.prog 142 #[.pointer (some ⟨g, 0, none⟩)] w (FieldsPost g (fieldOffs k) w) := by
  rcases hk with rfl | rfl | rfl
  · exact fields_place g w h
  · exact fields_cancel g w h
  · exact fields_swap g w h
end Go.Proofs.YtkdgpdijbobmkaaGreatDoor
