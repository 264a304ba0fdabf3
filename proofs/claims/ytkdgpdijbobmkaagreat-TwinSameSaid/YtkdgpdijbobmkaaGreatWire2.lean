/- The contracts of package wire: fields. -/
import Derived.Test.YtkdgpdijbobmkaaGreatWire
namespace Go.Proofs.YtkdgpdijbobmkaaGreat
set_option linter.all false
open Go.RowKit
/-- where the fields lie that stand in the bytes -/
def fieldOffs (k : Int) : List Nat := if k = 1 then [1, 2, 3, 4, 5, 6, 7, 8] else if k = 2 then [1] else [1, 5, 6]
/-- what fields ends with: a new block of the fields' addresses -/
def FieldsPost (g : Nat) (l : List Nat) (w : World) (e : Ending) (w' : World) : Prop :=
  e = .returned (.slice (some ⟨w.heap.size, 0, none⟩) l.length l.length) ∧ Bk w' w.heap.size 228 (l.map fun o => Value.pointer (some ⟨g, o, none⟩)).toArray ∧ Below w.heap.size w w'
end Go.Proofs.YtkdgpdijbobmkaaGreat
