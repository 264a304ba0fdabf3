/- TickTells: the call returns true, whatever the five numbers. -/
import Derived.Test.YtbapcgihnddjfaaDoorTickTellsB
import Derived.Test.YtbapcgihnddjfaaDoorTickTellsC
import Derived.Test.YtbapcgihnddjfaaDoorTickTellsD
import Derived.Test.YtbapcgihnddjfaaDoorTickTellsE
import Derived.Test.YtbapcgihnddjfaaDoorTickTellsF
namespace Go.Proofs.YtbapcgihnddjfaaDoor
open Go.RowKit
theorem tickTells_law {H : Type} {enc : TypeId × Value → H} {v0 v1 v2 v3 v4 : Value} {d0 d1 d2 d3 d4 : DataW H} {p0 p1 p2 p3 p4 : List MemPlace} {base : Nat} {W : World}
    (h0 : Arg enc W base 3 v0 d0 p0) (h1 : Arg enc W base 3 v1 d1 p1) (h2 : Arg enc W base 3 v2 d2 p2) (h3 : Arg enc W base 3 v3 d3 p3) (h4 : Arg enc W base 3 v4 d4 p4) (hl : Laid W) :
    Calls Tryd.prog 3 #[v0, v1, v2, v3, v4] W fun e w' => e = .returned (.bool true) ∧ Below W.heap.size W w' := by
  obtain ⟨p, rfl, _⟩ := h0.int
  obtain ⟨q, rfl, _⟩ := h1.int
  obtain ⟨n, rfl, _⟩ := h2.int
  obtain ⟨s, rfl, _⟩ := h3.int
  obtain ⟨parts, rfl, _⟩ := h4.int
  cases hp : vp p
  · exact tells_badp p q n s parts W hl hp
  cases hq : vp q
  · exact tells_qbad p q n s parts W hl hp hq
  by_cases a0 : parts < 0
  · exact tells_pneg p q n s parts W hl hp hq a0
  by_cases a1 : 100 < parts
  · exact tells_pbig p q n s parts W hl hp hq (by omega) a1
  by_cases a2 : p < q
  · exact tells_plt p q n s parts W hl hp hq (by omega) (by omega) a2
  · exact tells_pge p q n s parts W hl hp hq (by omega) (by omega) (by omega)
end Go.Proofs.YtbapcgihnddjfaaDoor
