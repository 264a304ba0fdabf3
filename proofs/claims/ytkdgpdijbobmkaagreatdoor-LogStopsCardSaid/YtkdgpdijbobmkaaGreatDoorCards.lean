/-
  DERIVED. GIVEN WITH THE SEED: THE CARDS: each row of YtkdgpdijbobmkaaGreatDoorRows.lean that lists a variable, with what it lists TIED to the program's text (the seventh form; the later family's looks); each row that meets fmt, with fmt's text TOLD by the authors' own Lean function (tested against real Go, not proved from fmt's source: count such statements apart). THE CARD IS WHAT COUNTS. Prove the row's statement (the work); the ties are given (YtkdgpdijbobmkaaGreatDoorTie.lean); close each card by the builder's one call (the guide's Derived/Test/ToyasCard.lean, 'card_holds'). Laid BY PROGRAM, IN A SANDBOX (cutbox-door.mjs). By AI agents, Wed Nov 11 2026. No macro, syntax, notation, axiom, sorry.
-/
import Derived.Test.YtkdgpdijbobmkaaGreatDoorRows
import GoSem.ClaimSeven
namespace Go.Proofs.YtkdgpdijbobmkaaGreatDoor
namespace Rows

/-- THE TIED CARD OF 'pitlaw2.FloorPlays'. -/
def floorPlaysCard : Claim7 := { stood := { row := floorPlaysRow, standIns := [], harness := (true, "a394157ba5eddd3ead8391bfb42b4af09a760b170b25b970039e08ff35fbfd4c"), looks := true }, kinds := [], alts := [], laidByText := true, laidKinds := [.handle], laidTests := true, laidLooks := .later }
def FloorPlaysCardSaid : Prop := Claim7.holds Tryz.pinned (.plain (OpenSpec.ofChange floorPlaysSpec)) floorPlaysCard

/-- THE TIED CARD OF 'pitlaw4.LogRefuses'. -/
def logRefusesCard : Claim7 := { stood := { row := logRefusesRow, standIns := [], harness := (true, "a394157ba5eddd3ead8391bfb42b4af09a760b170b25b970039e08ff35fbfd4c"), looks := true }, kinds := [], alts := [], laidByText := true, laidKinds := [.handle], laidTests := true, laidLooks := .later }
def LogRefusesCardSaid : Prop := Claim7.holds Tryz.pinned (.plain (OpenSpec.ofChange logRefusesSpec)) logRefusesCard

/-- THE TIED CARD OF 'pitlaw3.LogStops'. -/
def logStopsCard : Claim7 := { stood := { row := logStopsRow, standIns := [], harness := (true, "a394157ba5eddd3ead8391bfb42b4af09a760b170b25b970039e08ff35fbfd4c"), looks := true }, kinds := [], alts := [], laidByText := true, laidKinds := [.handle], laidTests := true, laidLooks := .later }
def LogStopsCardSaid : Prop := Claim7.holds Tryz.pinned (.plain (OpenSpec.ofChange logStopsSpec)) logStopsCard

/-- THE TIED CARD OF 'pitlaw3.LogKeeps'. -/
def logKeepsCard : Claim7 := { stood := { row := logKeepsRow, standIns := [], harness := (true, "a394157ba5eddd3ead8391bfb42b4af09a760b170b25b970039e08ff35fbfd4c"), looks := true }, kinds := [], alts := [], laidByText := true, laidKinds := [.handle], laidTests := true, laidLooks := .later }
def LogKeepsCardSaid : Prop := Claim7.holds Tryz.pinned (.plain (OpenSpec.ofChange logKeepsSpec)) logKeepsCard

/-- THE TIED CARD OF 'pitlaw3.TwinPlays'. -/
def twinPlaysCard : Claim7 := { stood := { row := twinPlaysRow, standIns := [], harness := (true, "a394157ba5eddd3ead8391bfb42b4af09a760b170b25b970039e08ff35fbfd4c"), looks := true }, kinds := [], alts := [], laidByText := true, laidKinds := [.handle], laidTests := true, laidLooks := .later }
def TwinPlaysCardSaid : Prop := Claim7.holds Tryz.pinned (.plain (OpenSpec.ofChange twinPlaysSpec)) twinPlaysCard

/-- THE SECOND FORM's CARD OF 'pitlaw2.FloorPlays'. -/
def floorPlaysUptoCard : Claim7 := { stood := { row := floorPlaysUptoRow, standIns := [], harness := (true, "a394157ba5eddd3ead8391bfb42b4af09a760b170b25b970039e08ff35fbfd4c"), looks := true }, kinds := [], alts := [], laidByText := true, laidKinds := [.handle], laidTests := true, laidLooks := .later }
def FloorPlaysUptoCardSaid : Prop := Claim7.holds Tryz.pinned (.plain (OpenSpec.upto floorPlaysSpec)) floorPlaysUptoCard

/-- THE SECOND FORM's CARD OF 'pitlaw4.LogRefuses'. -/
def logRefusesUptoCard : Claim7 := { stood := { row := logRefusesUptoRow, standIns := [], harness := (true, "a394157ba5eddd3ead8391bfb42b4af09a760b170b25b970039e08ff35fbfd4c"), looks := true }, kinds := [], alts := [], laidByText := true, laidKinds := [.handle], laidTests := true, laidLooks := .later }
def LogRefusesUptoCardSaid : Prop := Claim7.holds Tryz.pinned (.plain (OpenSpec.upto logRefusesSpec)) logRefusesUptoCard

/-- THE SECOND FORM's CARD OF 'pitlaw3.LogStops'. -/
def logStopsUptoCard : Claim7 := { stood := { row := logStopsUptoRow, standIns := [], harness := (true, "a394157ba5eddd3ead8391bfb42b4af09a760b170b25b970039e08ff35fbfd4c"), looks := true }, kinds := [], alts := [], laidByText := true, laidKinds := [.handle], laidTests := true, laidLooks := .later }
def LogStopsUptoCardSaid : Prop := Claim7.holds Tryz.pinned (.plain (OpenSpec.upto logStopsSpec)) logStopsUptoCard

/-- THE SECOND FORM's CARD OF 'pitlaw3.LogKeeps'. -/
def logKeepsUptoCard : Claim7 := { stood := { row := logKeepsUptoRow, standIns := [], harness := (true, "a394157ba5eddd3ead8391bfb42b4af09a760b170b25b970039e08ff35fbfd4c"), looks := true }, kinds := [], alts := [], laidByText := true, laidKinds := [.handle], laidTests := true, laidLooks := .later }
def LogKeepsUptoCardSaid : Prop := Claim7.holds Tryz.pinned (.plain (OpenSpec.upto logKeepsSpec)) logKeepsUptoCard

/-- THE SECOND FORM's CARD OF 'pitlaw3.TwinPlays'. -/
def twinPlaysUptoCard : Claim7 := { stood := { row := twinPlaysUptoRow, standIns := [], harness := (true, "a394157ba5eddd3ead8391bfb42b4af09a760b170b25b970039e08ff35fbfd4c"), looks := true }, kinds := [], alts := [], laidByText := true, laidKinds := [.handle], laidTests := true, laidLooks := .later }
def TwinPlaysUptoCardSaid : Prop := Claim7.holds Tryz.pinned (.plain (OpenSpec.upto twinPlaysSpec)) twinPlaysUptoCard
end Rows
end Go.Proofs.YtkdgpdijbobmkaaGreatDoor
