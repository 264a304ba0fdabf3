/-
  DERIVED. GIVEN WITH THE SEED: THE CARDS: each row of YtiaofbkhnodbhaaGreatDoorRows.lean that lists a variable, with what it lists TIED to the program's text (the seventh form; the later family's looks); each row that meets fmt, with fmt's text TOLD by the authors' own Lean function (tested against real Go, not proved from fmt's source: count such statements apart). THE CARD IS WHAT COUNTS. Prove the row's statement (the work); the ties are given (YtiaofbkhnodbhaaGreatDoorTie.lean); close each card by the builder's one call (the guide's Derived/Test/ToyasCard.lean, 'card_holds'). Laid BY PROGRAM, IN A SANDBOX (cutbox-door.mjs). By AI agents, Wed Nov 11 2026. No macro, syntax, notation, axiom, sorry.
-/
import Derived.Test.YtiaofbkhnodbhaaGreatDoorRows
import GoSem.ClaimSeven
namespace Go.Proofs.YtiaofbkhnodbhaaGreatDoor
namespace Rows

/-- THE TIED CARD OF 'pitlaw1.KindsTell'. -/
def kindsTellCard : Claim7 := { stood := { row := kindsTellRow, standIns := [], harness := (true, "e4e76e49947e1a1151cccaaeae2042996632caaaac395aab7c7ceb5bd81ce758"), looks := true }, kinds := [], alts := [], laidByText := true, laidKinds := [.handle], laidTests := true, laidLooks := .later }
def KindsTellCardSaid : Prop := Claim7.holds Tryz.pinned (.plain (OpenSpec.ofChange kindsTellSpec)) kindsTellCard

/-- THE TIED CARD OF 'pitlaw1.SelfTells'. -/
def selfTellsCard : Claim7 := { stood := { row := selfTellsRow, standIns := [], harness := (true, "e4e76e49947e1a1151cccaaeae2042996632caaaac395aab7c7ceb5bd81ce758"), looks := true }, kinds := [], alts := [], laidByText := true, laidKinds := [.handle], laidTests := true, laidLooks := .later }
def SelfTellsCardSaid : Prop := Claim7.holds Tryz.pinned (.plain (OpenSpec.ofChange selfTellsSpec)) selfTellsCard

/-- THE TIED CARD OF 'pitlaw2.SwapTells'. -/
def swapTellsCard : Claim7 := { stood := { row := swapTellsRow, standIns := [], harness := (true, "e4e76e49947e1a1151cccaaeae2042996632caaaac395aab7c7ceb5bd81ce758"), looks := true }, kinds := [], alts := [], laidByText := true, laidKinds := [.handle], laidTests := true, laidLooks := .later }
def SwapTellsCardSaid : Prop := Claim7.holds Tryz.pinned (.plain (OpenSpec.ofChange swapTellsSpec)) swapTellsCard

/-- THE SECOND FORM's CARD OF 'pitlaw1.KindsTell'. -/
def kindsTellUptoCard : Claim7 := { stood := { row := kindsTellUptoRow, standIns := [], harness := (true, "e4e76e49947e1a1151cccaaeae2042996632caaaac395aab7c7ceb5bd81ce758"), looks := true }, kinds := [], alts := [], laidByText := true, laidKinds := [.handle], laidTests := true, laidLooks := .later }
def KindsTellUptoCardSaid : Prop := Claim7.holds Tryz.pinned (.plain (OpenSpec.upto kindsTellSpec)) kindsTellUptoCard

/-- THE SECOND FORM's CARD OF 'pitlaw1.SelfTells'. -/
def selfTellsUptoCard : Claim7 := { stood := { row := selfTellsUptoRow, standIns := [], harness := (true, "e4e76e49947e1a1151cccaaeae2042996632caaaac395aab7c7ceb5bd81ce758"), looks := true }, kinds := [], alts := [], laidByText := true, laidKinds := [.handle], laidTests := true, laidLooks := .later }
def SelfTellsUptoCardSaid : Prop := Claim7.holds Tryz.pinned (.plain (OpenSpec.upto selfTellsSpec)) selfTellsUptoCard

/-- THE SECOND FORM's CARD OF 'pitlaw2.SwapTells'. -/
def swapTellsUptoCard : Claim7 := { stood := { row := swapTellsUptoRow, standIns := [], harness := (true, "e4e76e49947e1a1151cccaaeae2042996632caaaac395aab7c7ceb5bd81ce758"), looks := true }, kinds := [], alts := [], laidByText := true, laidKinds := [.handle], laidTests := true, laidLooks := .later }
def SwapTellsUptoCardSaid : Prop := Claim7.holds Tryz.pinned (.plain (OpenSpec.upto swapTellsSpec)) swapTellsUptoCard
end Rows
end Go.Proofs.YtiaofbkhnodbhaaGreatDoor
