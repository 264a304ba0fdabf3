/-
  DERIVED. GIVEN WITH THE SEED: THE CARDS: each row of YtiaofbkhnodbhaaDoorRows.lean that lists a variable, with what it lists TIED to the program's text (the seventh form; the later family's looks); each row that meets fmt, with fmt's text TOLD by the authors' own Lean function (tested against real Go, not proved from fmt's source: count such statements apart). THE CARD IS WHAT COUNTS. Prove the row's statement (the work); the ties are given (YtiaofbkhnodbhaaDoorTie.lean); close each card by the builder's one call (the guide's Derived/Test/ToyasCard.lean, 'card_holds'). Laid BY PROGRAM, IN A SANDBOX (cutbox-door.mjs). By AI agents, Wed Nov 11 2026. No macro, syntax, notation, axiom, sorry.
-/
import Derived.Test.YtiaofbkhnodbhaaDoorRows
import GoSem.ClaimSeven
namespace Go.Proofs.YtiaofbkhnodbhaaDoor
namespace Rows

/-- THE TIED CARD OF 'pitlaw1.SideTells'. -/
def sideTellsCard : Claim7 := { stood := { row := sideTellsRow, standIns := [], harness := (true, "91cdb7f5f400fa624b8d5c8f6a3dbd1009f112f545ca1c40f05b88fc48cb8ac4"), looks := true }, kinds := [], alts := [], laidByText := true, laidKinds := [.handle], laidTests := true, laidLooks := .later }
def SideTellsCardSaid : Prop := Claim7.holds Tryd.pinned (.plain (OpenSpec.ofChange sideTellsSpec)) sideTellsCard

/-- THE TIED CARD OF 'pitlaw2.WakePlays'. -/
def wakePlaysCard : Claim7 := { stood := { row := wakePlaysRow, standIns := [], harness := (true, "91cdb7f5f400fa624b8d5c8f6a3dbd1009f112f545ca1c40f05b88fc48cb8ac4"), looks := true }, kinds := [], alts := [], laidByText := true, laidKinds := [.handle], laidTests := true, laidLooks := .later }
def WakePlaysCardSaid : Prop := Claim7.holds Tryd.pinned (.plain (OpenSpec.ofChange wakePlaysSpec)) wakePlaysCard

/-- THE TIED CARD OF 'pitlaw4.TapeCounts'. -/
def tapeCountsCard : Claim7 := { stood := { row := tapeCountsRow, standIns := [], harness := (true, "91cdb7f5f400fa624b8d5c8f6a3dbd1009f112f545ca1c40f05b88fc48cb8ac4"), looks := true }, kinds := [], alts := [], laidByText := true, laidKinds := [.data, .data, .data], laidTests := true, laidLooks := .later }
def TapeCountsCardSaid : Prop := Claim7.holds Tryd.pinned (.plain (OpenSpec.ofChange tapeCountsSpec)) tapeCountsCard

/-- THE TIED CARD OF 'pitlaw3.WireTells'. -/
def wireTellsCard : Claim7 := { stood := { row := wireTellsRow, standIns := [], harness := (true, "91cdb7f5f400fa624b8d5c8f6a3dbd1009f112f545ca1c40f05b88fc48cb8ac4"), looks := true }, kinds := [], alts := [], laidByText := true, laidKinds := [.handle], laidTests := true, laidLooks := .later }
def WireTellsCardSaid : Prop := Claim7.holds Tryd.pinned (.plain (OpenSpec.ofChange wireTellsSpec)) wireTellsCard

/-- THE SECOND FORM's CARD OF 'pitlaw1.SideTells'. -/
def sideTellsUptoCard : Claim7 := { stood := { row := sideTellsUptoRow, standIns := [], harness := (true, "91cdb7f5f400fa624b8d5c8f6a3dbd1009f112f545ca1c40f05b88fc48cb8ac4"), looks := true }, kinds := [], alts := [], laidByText := true, laidKinds := [.handle], laidTests := true, laidLooks := .later }
def SideTellsUptoCardSaid : Prop := Claim7.holds Tryd.pinned (.plain (OpenSpec.upto sideTellsSpec)) sideTellsUptoCard

/-- THE SECOND FORM's CARD OF 'pitlaw2.WakePlays'. -/
def wakePlaysUptoCard : Claim7 := { stood := { row := wakePlaysUptoRow, standIns := [], harness := (true, "91cdb7f5f400fa624b8d5c8f6a3dbd1009f112f545ca1c40f05b88fc48cb8ac4"), looks := true }, kinds := [], alts := [], laidByText := true, laidKinds := [.handle], laidTests := true, laidLooks := .later }
def WakePlaysUptoCardSaid : Prop := Claim7.holds Tryd.pinned (.plain (OpenSpec.upto wakePlaysSpec)) wakePlaysUptoCard

/-- THE SECOND FORM's CARD OF 'pitlaw4.TapeCounts'. -/
def tapeCountsUptoCard : Claim7 := { stood := { row := tapeCountsUptoRow, standIns := [], harness := (true, "91cdb7f5f400fa624b8d5c8f6a3dbd1009f112f545ca1c40f05b88fc48cb8ac4"), looks := true }, kinds := [], alts := [], laidByText := true, laidKinds := [.data, .data, .data], laidTests := true, laidLooks := .later }
def TapeCountsUptoCardSaid : Prop := Claim7.holds Tryd.pinned (.plain (OpenSpec.upto tapeCountsSpec)) tapeCountsUptoCard

/-- THE SECOND FORM's CARD OF 'pitlaw3.WireTells'. -/
def wireTellsUptoCard : Claim7 := { stood := { row := wireTellsUptoRow, standIns := [], harness := (true, "91cdb7f5f400fa624b8d5c8f6a3dbd1009f112f545ca1c40f05b88fc48cb8ac4"), looks := true }, kinds := [], alts := [], laidByText := true, laidKinds := [.handle], laidTests := true, laidLooks := .later }
def WireTellsUptoCardSaid : Prop := Claim7.holds Tryd.pinned (.plain (OpenSpec.upto wireTellsSpec)) wireTellsUptoCard
end Rows
end Go.Proofs.YtiaofbkhnodbhaaDoor
