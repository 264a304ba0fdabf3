/- A block of the call's own as a slice of its own. -/
import Derived.Test.YtkdgpdijbobmkaaGreatDoorGrpC
import Derived.Test.YtkdgpdijbobmkaaGreatDoorGrpA
namespace Go.Proofs.YtkdgpdijbobmkaaGreatDoor
set_option linter.all false
open Go Go.RowKit
theorem Bk.own {w : World} {g base s n : Nat} {t : TypeId} {cs : Array Value} (h : Bk w g t cs) (hb : base ≤ g) (hn : cs.size = n * s) (hm : n ≤ maxLen) : OwnS w base s (some ⟨g, 0, none⟩) n n cs.toList := by
  refine ⟨by simpa using hn, Nat.le_refl _, hm, fun h0 => ⟨g, 0, rfl, hb, h.lt, fun j hj => ?_, fun j hj => ⟨?_, h.free _⟩⟩⟩
  · rw [Nat.zero_add, h.cell, Array.getElem?_toList]
  · rw [Nat.zero_add, h.cell, Array.getElem?_eq_getElem (by omega)]; rfl
end Go.Proofs.YtkdgpdijbobmkaaGreatDoor
