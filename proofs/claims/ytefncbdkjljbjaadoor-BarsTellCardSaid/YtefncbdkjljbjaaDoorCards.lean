/-
  DERIVED. GIVEN WITH THE SEED: THE CARDS: each row of YtefncbdkjljbjaaDoorRows.lean that lists a variable, with what it lists TIED to the program's text (the seventh form; the later family's looks); each row that meets fmt, with fmt's text TOLD by the authors' own Lean function (tested against real Go, not proved from fmt's source: count such statements apart). THE CARD IS WHAT COUNTS. Prove the row's statement (the work); the ties are given (YtefncbdkjljbjaaDoorTie.lean); close each card by the builder's one call (the guide's Derived/Test/ToyasCard.lean, 'card_holds'). Laid BY PROGRAM, IN A SANDBOX (cutbox-door.mjs). By AI agents, Wed Nov 11 2026. No macro, syntax, notation, axiom, sorry.
-/
import Derived.Test.YtefncbdkjljbjaaDoorRows
import GoSem.ClaimSeven
namespace Go.Proofs.YtefncbdkjljbjaaDoor
namespace Rows

/-- THE TIED CARD OF 'pitlaw4.PurseHolds'. -/
def purseHoldsCard : Claim7 := { stood := { row := purseHoldsRow, standIns := [], harness := (true, "c295e05b3c536d136d4ec727968557c583f4135ff50c43faa12d91db2f0c794b"), looks := true }, kinds := [], alts := [], laidByText := true, laidKinds := [.handle], laidTests := true, laidLooks := .later }
def PurseHoldsCardSaid : Prop := Claim7.holds Tryd.pinned (.plain (OpenSpec.ofChange purseHoldsSpec)) purseHoldsCard

/-- THE TIED CARD OF 'pitlaw3.BarsTell'. -/
def barsTellCard : Claim7 := { stood := { row := barsTellRow, standIns := [], harness := (true, "c295e05b3c536d136d4ec727968557c583f4135ff50c43faa12d91db2f0c794b"), looks := true }, kinds := [], alts := [], laidByText := true, laidKinds := [.handle], laidTests := true, laidLooks := .later }
def BarsTellCardSaid : Prop := Claim7.holds Tryd.pinned (.plain (OpenSpec.ofChange barsTellSpec)) barsTellCard

/-- THE TIED CARD OF 'pitlaw2.PursePlays'. -/
def pursePlaysCard : Claim7 := { stood := { row := pursePlaysRow, standIns := [], harness := (true, "c295e05b3c536d136d4ec727968557c583f4135ff50c43faa12d91db2f0c794b"), looks := true }, kinds := [], alts := [], laidByText := true, laidKinds := [.handle], laidTests := true, laidLooks := .later }
def PursePlaysCardSaid : Prop := Claim7.holds Tryd.pinned (.plain (OpenSpec.ofChange pursePlaysSpec)) pursePlaysCard

/-- THE TIED CARD OF 'pitlaw2.MarginTells'. -/
def marginTellsCard : Claim7 := { stood := { row := marginTellsRow, standIns := [], harness := (true, "c295e05b3c536d136d4ec727968557c583f4135ff50c43faa12d91db2f0c794b"), looks := true }, kinds := [], alts := [], laidByText := true, laidKinds := [.handle], laidTests := true, laidLooks := .later }
def MarginTellsCardSaid : Prop := Claim7.holds Tryd.pinned (.plain (OpenSpec.ofChange marginTellsSpec)) marginTellsCard

/-- THE TIED CARD OF 'pitlaw4.QueueFull'. -/
def queueFullCard : Claim7 := { stood := { row := queueFullRow, standIns := [], harness := (true, "c295e05b3c536d136d4ec727968557c583f4135ff50c43faa12d91db2f0c794b"), looks := true }, kinds := [], alts := [], laidByText := true, laidKinds := [.handle], laidTests := true, laidLooks := .later }
def QueueFullCardSaid : Prop := Claim7.holds Tryd.pinned (.plain (OpenSpec.ofChange queueFullSpec)) queueFullCard

/-- THE TIED CARD OF 'pitlaw1.QueueTells'. -/
def queueTellsCard : Claim7 := { stood := { row := queueTellsRow, standIns := [], harness := (true, "c295e05b3c536d136d4ec727968557c583f4135ff50c43faa12d91db2f0c794b"), looks := true }, kinds := [], alts := [], laidByText := true, laidKinds := [.handle], laidTests := true, laidLooks := .later }
def QueueTellsCardSaid : Prop := Claim7.holds Tryd.pinned (.plain (OpenSpec.ofChange queueTellsSpec)) queueTellsCard

/-- THE TIED CARD OF 'pitlaw3.WireTells'. -/
def wireTellsCard : Claim7 := { stood := { row := wireTellsRow, standIns := [], harness := (true, "c295e05b3c536d136d4ec727968557c583f4135ff50c43faa12d91db2f0c794b"), looks := true }, kinds := [], alts := [], laidByText := true, laidKinds := [.handle], laidTests := true, laidLooks := .later }
def WireTellsCardSaid : Prop := Claim7.holds Tryd.pinned (.plain (OpenSpec.ofChange wireTellsSpec)) wireTellsCard

/-- THE SECOND FORM's CARD OF 'pitlaw4.PurseHolds'. -/
def purseHoldsUptoCard : Claim7 := { stood := { row := purseHoldsUptoRow, standIns := [], harness := (true, "c295e05b3c536d136d4ec727968557c583f4135ff50c43faa12d91db2f0c794b"), looks := true }, kinds := [], alts := [], laidByText := true, laidKinds := [.handle], laidTests := true, laidLooks := .later }
def PurseHoldsUptoCardSaid : Prop := Claim7.holds Tryd.pinned (.plain (OpenSpec.upto purseHoldsSpec)) purseHoldsUptoCard

/-- THE SECOND FORM's CARD OF 'pitlaw3.BarsTell'. -/
def barsTellUptoCard : Claim7 := { stood := { row := barsTellUptoRow, standIns := [], harness := (true, "c295e05b3c536d136d4ec727968557c583f4135ff50c43faa12d91db2f0c794b"), looks := true }, kinds := [], alts := [], laidByText := true, laidKinds := [.handle], laidTests := true, laidLooks := .later }
def BarsTellUptoCardSaid : Prop := Claim7.holds Tryd.pinned (.plain (OpenSpec.upto barsTellSpec)) barsTellUptoCard

/-- THE SECOND FORM's CARD OF 'pitlaw2.PursePlays'. -/
def pursePlaysUptoCard : Claim7 := { stood := { row := pursePlaysUptoRow, standIns := [], harness := (true, "c295e05b3c536d136d4ec727968557c583f4135ff50c43faa12d91db2f0c794b"), looks := true }, kinds := [], alts := [], laidByText := true, laidKinds := [.handle], laidTests := true, laidLooks := .later }
def PursePlaysUptoCardSaid : Prop := Claim7.holds Tryd.pinned (.plain (OpenSpec.upto pursePlaysSpec)) pursePlaysUptoCard

/-- THE SECOND FORM's CARD OF 'pitlaw2.MarginTells'. -/
def marginTellsUptoCard : Claim7 := { stood := { row := marginTellsUptoRow, standIns := [], harness := (true, "c295e05b3c536d136d4ec727968557c583f4135ff50c43faa12d91db2f0c794b"), looks := true }, kinds := [], alts := [], laidByText := true, laidKinds := [.handle], laidTests := true, laidLooks := .later }
def MarginTellsUptoCardSaid : Prop := Claim7.holds Tryd.pinned (.plain (OpenSpec.upto marginTellsSpec)) marginTellsUptoCard

/-- THE SECOND FORM's CARD OF 'pitlaw4.QueueFull'. -/
def queueFullUptoCard : Claim7 := { stood := { row := queueFullUptoRow, standIns := [], harness := (true, "c295e05b3c536d136d4ec727968557c583f4135ff50c43faa12d91db2f0c794b"), looks := true }, kinds := [], alts := [], laidByText := true, laidKinds := [.handle], laidTests := true, laidLooks := .later }
def QueueFullUptoCardSaid : Prop := Claim7.holds Tryd.pinned (.plain (OpenSpec.upto queueFullSpec)) queueFullUptoCard

/-- THE SECOND FORM's CARD OF 'pitlaw1.QueueTells'. -/
def queueTellsUptoCard : Claim7 := { stood := { row := queueTellsUptoRow, standIns := [], harness := (true, "c295e05b3c536d136d4ec727968557c583f4135ff50c43faa12d91db2f0c794b"), looks := true }, kinds := [], alts := [], laidByText := true, laidKinds := [.handle], laidTests := true, laidLooks := .later }
def QueueTellsUptoCardSaid : Prop := Claim7.holds Tryd.pinned (.plain (OpenSpec.upto queueTellsSpec)) queueTellsUptoCard

/-- THE SECOND FORM's CARD OF 'pitlaw3.WireTells'. -/
def wireTellsUptoCard : Claim7 := { stood := { row := wireTellsUptoRow, standIns := [], harness := (true, "c295e05b3c536d136d4ec727968557c583f4135ff50c43faa12d91db2f0c794b"), looks := true }, kinds := [], alts := [], laidByText := true, laidKinds := [.handle], laidTests := true, laidLooks := .later }
def WireTellsUptoCardSaid : Prop := Claim7.holds Tryd.pinned (.plain (OpenSpec.upto wireTellsSpec)) wireTellsUptoCard
end Rows
end Go.Proofs.YtefncbdkjljbjaaDoor
