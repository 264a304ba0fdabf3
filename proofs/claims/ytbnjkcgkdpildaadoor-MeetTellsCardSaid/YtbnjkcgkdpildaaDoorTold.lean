/- pitsame.Error, asked with the number that was told, whatever it is. -/
import Derived.Test.YtbnjkcgkdpildaaDoorSame
import Derived.Test.YtbnjkcgkdpildaaDoorGrpA
namespace Go.Proofs.YtbnjkcgkdpildaaDoor
set_option linter.all false
open Go Go.RowKit
theorem same_told (E : Int) (w : World) (hl : Laid w) : Calls Tryd.prog 8 #[errV E, .int .i64 E] w fun e w' => e = .returned (.bool true) ∧ Below w.heap.size w w' := by
  by_cases h : E = 0
  · subst h
    refine (same_nil 0 w).mono ?_
    rintro e w' ⟨rfl, rfl⟩
    exact ⟨rfl, Below.refl _ _⟩
  · rw [errV, if_neg h]
    refine (same_er E E w hl).mono ?_
    rintro e w' ⟨rfl, hb⟩
    exact ⟨by simp, hb⟩
end Go.Proofs.YtbnjkcgkdpildaaDoor
