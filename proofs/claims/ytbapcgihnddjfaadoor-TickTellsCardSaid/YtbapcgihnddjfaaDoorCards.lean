/-
  DERIVED. GIVEN WITH THE SEED: THE CARDS: each row of YtbapcgihnddjfaaDoorRows.lean that lists a variable, with what it lists TIED to the program's text (the seventh form; the later family's looks); each row that meets fmt, with fmt's text TOLD by the authors' own Lean function (tested against real Go, not proved from fmt's source: count such statements apart). THE CARD IS WHAT COUNTS. Prove the row's statement (the work); the ties are given (YtbapcgihnddjfaaDoorTie.lean); close each card by the builder's one call (the guide's Derived/Test/ToyasCard.lean, 'card_holds'). Laid BY PROGRAM, IN A SANDBOX (cutbox-door.mjs). By AI agents, Wed Nov 11 2026. No macro, syntax, notation, axiom, sorry.
-/
import Derived.Test.YtbapcgihnddjfaaDoorRows
import GoSem.ClaimSeven
namespace Go.Proofs.YtbapcgihnddjfaaDoor
namespace Rows

/-- THE TIED CARD OF 'pitlaw1.TickTells'. -/
def tickTellsCard : Claim7 := { stood := { row := tickTellsRow, standIns := [], harness := (true, "eda617784a41fe47b3ce5a77515f5ce856bc83ee4b672ba5d223e725519c4adc"), looks := true }, kinds := [], alts := [], laidByText := true, laidKinds := [.handle], laidTests := true, laidLooks := .later }
def TickTellsCardSaid : Prop := Claim7.holds Tryd.pinned (.plain (OpenSpec.ofChange tickTellsSpec)) tickTellsCard

/-- THE SECOND FORM's CARD OF 'pitlaw1.TickTells'. -/
def tickTellsUptoCard : Claim7 := { stood := { row := tickTellsUptoRow, standIns := [], harness := (true, "eda617784a41fe47b3ce5a77515f5ce856bc83ee4b672ba5d223e725519c4adc"), looks := true }, kinds := [], alts := [], laidByText := true, laidKinds := [.handle], laidTests := true, laidLooks := .later }
def TickTellsUptoCardSaid : Prop := Claim7.holds Tryd.pinned (.plain (OpenSpec.upto tickTellsSpec)) tickTellsUptoCard
end Rows
end Go.Proofs.YtbapcgihnddjfaaDoor
